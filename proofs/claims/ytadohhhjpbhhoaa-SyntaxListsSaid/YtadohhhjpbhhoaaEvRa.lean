/- An evaluator of the program's code over abstract values and an abstract heap: structs compared; elements of arrays. -/
import Derived.Test.YtadohhhjpbhhoaaEvR
import Derived.ChangeKeysEq
import Derived.Laws.StructEq
namespace Go.Proofs.Ytadohhhjpbhhoaa.EvA
open Go.RowKit
set_option linter.unusedVariables false
set_option linter.unusedSimpArgs false
theorem eqK_cases {P : Program} {t : TypeId} {neg : Bool} {a b : AX} {k : KO} (h : eqK P t neg a b = some k) : (∃ m, k = oEq neg m a b) ∨ ∃ l, k = oEqS neg l a b := by
  unfold eqK at h
  split at h
  · simp only [Option.some.injEq] at h; exact Or.inl ⟨_, h.symm⟩
  · split at h
    · split at h
      · cases h
      · obtain ⟨l, _, rfl⟩ := Option.map_eq_some_iff.1 h; exact Or.inr ⟨l, rfl⟩
    · cases h
theorem iaddrK_cases {P : Program} {t : TypeId} {x i : AX} {k : KO} (h : iaddrK P t x i = some k) : (∃ s, k = oIaddr s x i) ∨ ∃ n s, k = oIaddrA n s x i := by
  unfold iaddrK at h
  split at h
  · obtain ⟨l, _, rfl⟩ := Option.map_eq_some_iff.1 h; exact Or.inl ⟨l, rfl⟩
  · obtain ⟨l, _, rfl⟩ := Option.map_eq_some_iff.1 h; exact Or.inr ⟨_, l, rfl⟩
  · cases h
theorem cellsEq_app {c e : List AV} {l2 : List (Nat × Nat)} : ∀ {l1 : List (Nat × Nat)}, cellsEq c e (l1 ++ l2) = match cellsEq c e l1 with | some true => cellsEq c e l2 | r => r
  | [] => rfl
  | (off, m) :: r => by
    simp only [List.cons_append, cellsEq]
    split
    · split
      · split
        · exact cellsEq_app
        · rfl
        · rfl
      · rfl
    · rfl
/-- Cells from a place on. -/
def Win (G : Gh) (c : List AV) (q n : Nat) (xs : Array Value) : Prop := ∀ (j : Nat) a, j < n → c[q + j]? = some a → ∃ u, xs[j]? = some u ∧ VR G a u
theorem Win.part {G : Gh} {c : List AV} {q n : Nat} {xs : Array Value} (h : Win G c q n xs) {o m : Nat} (ho : o + m ≤ n) : Win G c (q + o) m (xs.extract o (o + m)) := by
  intro j a hj ha
  obtain ⟨u, h1, h2⟩ := h (o + j) a (by omega) (by rw [← Nat.add_assoc]; exact ha)
  refine ⟨u, ?_, h2⟩
  have hlt := (Array.getElem?_eq_some_iff.1 h1).1
  rw [Array.getElem?_extract, if_pos (by omega)]; exact h1
theorem scalar_part {P : Program} {e : TypeId} (he : P.plainKey e = true) {xs : Array Value} {off : Nat} {v : Value} (hx : xs[off]? = some v) (w : World) : (part e xs off).run P w = .ok v w := run_part_plain w he hx
theorem agg_part {P : Program} {t : TypeId} (ht : (∃ n e, P.underlying t = some (.array n e)) ∨ ∃ fs, P.underlying t = some (.struct fs)) {i : TypeInfo} (hi : P.info? t = some i) (xs : Array Value) (off : Nat) (w : World) : (part t xs off).run P w = .ok (.agg (xs.extract off (off + P.cellsOf t))) w := by
  rcases ht with ⟨n, e, hu⟩ | ⟨fs, hu⟩ <;> simp [part, isAgg, run_underlying hu, run_sizeOf w hi]
theorem plan_ok {P : Program} {G : Gh} {c e : List AV} : ∀ (d : Nat) (t : TypeId) (q o : Nat) (plan : List (Nat × Nat)), planT P d t (q + o) = some plan → ∀ (D n : Nat) (xs ys : Array Value) (b : Bool) (w : World), d ≤ D → o + P.cellsOf t ≤ n → Win G c q n xs → Win G e q n ys → cellsEq c e plan = some b →
    ∃ u v, (part t xs o).run P w = .ok u w ∧ (part t ys o).run P w = .ok v w ∧ (Op.equalIn D t u v).run P w = .ok b w
  | 0, t, q, o, plan, h => by cases h
  | d + 1, t, q, o, plan, h => by
    intro D n xs ys b w hD hn hx hy hb
    obtain ⟨D, rfl⟩ : ∃ D', D = D' + 1 := ⟨D - 1, by omega⟩
    have one : ∀ m, P.plainKey t = true → P.cellsOf t = 1 → plan = [(q + o, m)] → ∃ a a' u v, (part t xs o).run P w = .ok u w ∧ (part t ys o).run P w = .ok v w ∧ VR G a u ∧ VR G a' v ∧ scalarEq m a a' = some b := by
      intro m hp h1 hpl
      subst hpl
      simp only [cellsEq] at hb
      split at hb
      · rename_i a a' e1 e2
        obtain ⟨u, k1, k2⟩ := hx o a (by omega) e1
        obtain ⟨v, k3, k4⟩ := hy o a' (by omega) e2
        split at hb
        · refine ⟨a, a', u, v, scalar_part hp k1 w, scalar_part hp k3 w, k2, k4, ?_⟩
          split at hb
          · rename_i hs; rw [hs]; exact hb
          · rename_i hs; rw [hs]; exact hb
          · cases hb
        · cases hb
      · cases hb
    simp only [planT] at h
    split at h
    · rename_i hu
      split at h
      · rename_i h1
        simp only [Option.some.injEq] at h
        obtain ⟨a, a', u, v, p1, p2, r1, r2, hs⟩ := one 0 (by simp [Program.plainKey, hu]) h1 h.symm
        refine ⟨u, v, p1, p2, ?_⟩
        unfold scalarEq at hs
        split at hs <;> (try (cases hs; done)) <;> (split at hs <;> (try (cases hs; done))) <;> (rename_i hm; try (exact absurd hm (by omega)))
        simp only [VR] at r1 r2
        subst r1; subst r2
        simp only [Option.some.injEq] at hs; subst hs
        exact run_equalIn_bool w D t _ _ hu
      · cases h
    · rename_i k hu
      split at h
      · rename_i h1
        simp only [Option.some.injEq] at h
        obtain ⟨a, a', u, v, p1, p2, r1, r2, hs⟩ := one 1 (by simp [Program.plainKey, hu]) h1 h.symm
        refine ⟨u, v, p1, p2, ?_⟩
        unfold scalarEq at hs
        split at hs <;> (try (cases hs; done)) <;> (split at hs <;> (try (cases hs; done))) <;> (rename_i hm; try (exact absurd hm (by omega)))
        simp only [VR] at r1 r2
        obtain ⟨_, rfl⟩ := hm
        subst r1; subst r2
        simp only [Option.some.injEq] at hs; subst hs
        exact run_equalIn_int w D t _ _ _ _ hu
      · cases h
    · rename_i hu
      split at h
      · rename_i h1
        simp only [Option.some.injEq] at h
        obtain ⟨a, a', u, v, p1, p2, r1, r2, hs⟩ := one 2 (by simp [Program.plainKey, hu]) h1 h.symm
        refine ⟨u, v, p1, p2, ?_⟩
        unfold scalarEq at hs
        split at hs <;> (try (cases hs; done)) <;> (split at hs <;> (try (cases hs; done))) <;> (rename_i hm; try (exact absurd hm (by omega)))
        simp only [VR] at r1 r2
        subst r1; subst r2
        simp only [Option.some.injEq] at hs; subst hs
        exact run_equalIn_string w D t _ _ hu
      · cases h
    · rename_i fs hu
      split at h
      · cases h
      · rename_i hc
        have hst : P.stoodInHeld t = false := by
          cases hh : P.stoodInHeld t with
          | false => rfl
          | true => exact absurd (Or.inl hh) hc
        obtain ⟨i, hi⟩ : ∃ i, P.info? t = some i := by
          cases hh : P.info? t with
          | none => exact absurd (Or.inr (by rw [hh]; rfl)) hc
          | some i => exact ⟨i, rfl⟩
        refine ⟨_, _, agg_part (Or.inr ⟨fs, hu⟩) hi xs o w, agg_part (Or.inr ⟨fs, hu⟩) hi ys o w, ?_⟩
        have hfs : P.fieldsOf t = fs := by simp [Program.fieldsOf, hu]
        rw [run_equalIn_struct w D t _ _ (by rw [hfs]; exact hu) hst, hfs]
        have wx := hx.part hn
        have wy := hy.part hn
        generalize xs.extract o (o + P.cellsOf t) = xs' at wx ⊢
        generalize ys.extract o (o + P.cellsOf t) = ys' at wy ⊢
        clear hu hfs
        have key : ∀ (l : List Field) (plan : List (Nat × Nat)) (b : Bool), planFs P (planT P d) (P.cellsOf t) (q + o) l = some plan → cellsEq c e plan = some b → (Op.eqFields D xs' ys' l).run P w = .ok b w := by
          intro l
          induction l with
          | nil => intro plan b h hb; simp only [planFs, Option.some.injEq] at h; subst h; simp only [cellsEq, Option.some.injEq] at hb; subst hb; rfl
          | cons f r ih =>
            intro plan b h hb
            simp only [planFs] at h
            split at h
            · cases h
            · rename_i hf
              split at h
              · rename_i p1 p2 e1 e2
                simp only [Option.some.injEq] at h; subst h
                rw [cellsEq_app] at hb
                have hle : f.offset + P.cellsOf f.type ≤ P.cellsOf t := by
                  apply Nat.le_of_not_lt; intro hlt; exact hf (Or.inr hlt)
                have hnm : f.name ≠ "_" := fun e => hf (Or.inl e)
                simp only [Op.eqFields]
                rw [if_pos hnm]
                cases hc1 : cellsEq c e p1 with
                | none => rw [hc1] at hb; cases hb
                | some b1 =>
                  obtain ⟨u, v, k1, k2, k3⟩ := plan_ok d f.type (q + o) f.offset p1 e1 D _ xs' ys' b1 w (by omega) hle wx wy hc1
                  rw [hc1] at hb
                  simp only [Sem.run_bind, k1, Result.andThen_ok, k2, k3]
                  cases b1 with
                  | true => simp only at hb; simpa using ih p2 b e2 hb
                  | false => simp only [Option.some.injEq] at hb; subst hb; simp
              · cases h
        exact key fs.toList plan b h hb
    · rename_i m el hu
      split at h
      · cases h
      · rename_i hc
        obtain ⟨i, hi⟩ : ∃ i, P.info? t = some i := by
          cases hh : P.info? t with
          | none => exact absurd (Or.inl (by rw [hh]; rfl)) hc
          | some i => exact ⟨i, rfl⟩
        obtain ⟨i2, hi2⟩ : ∃ i, P.info? el = some i := by
          cases hh : P.info? el with
          | none => exact absurd (Or.inr (by rw [hh]; rfl)) hc
          | some i => exact ⟨i, rfl⟩
        refine ⟨_, _, agg_part (Or.inl ⟨m, el, hu⟩) hi xs o w, agg_part (Or.inl ⟨m, el, hu⟩) hi ys o w, ?_⟩
        rw [run_equalIn_array w D _ _ hu hi2]
        have wx := hx.part hn
        have wy := hy.part hn
        generalize xs.extract o (o + P.cellsOf t) = xs' at wx ⊢
        generalize ys.extract o (o + P.cellsOf t) = ys' at wy ⊢
        clear hu
        have key : ∀ (l : List Nat) (plan : List (Nat × Nat)) (b : Bool), planIs (planT P d el) (P.cellsOf el) (P.cellsOf t) (q + o) l = some plan → cellsEq c e plan = some b → (Op.eqItems D el (P.cellsOf el) xs' ys' l).run P w = .ok b w := by
          intro l
          induction l with
          | nil => intro plan b h hb; simp only [planIs, Option.some.injEq] at h; subst h; simp only [cellsEq, Option.some.injEq] at hb; subst hb; rfl
          | cons j r ih =>
            intro plan b h hb
            simp only [planIs] at h
            split at h
            · cases h
            · rename_i hf
              split at h
              · rename_i p1 p2 e1 e2
                simp only [Option.some.injEq] at h; subst h
                rw [cellsEq_app] at hb
                have hle : j * P.cellsOf el + P.cellsOf el ≤ P.cellsOf t := by omega
                simp only [Op.eqItems]
                cases hc1 : cellsEq c e p1 with
                | none => rw [hc1] at hb; cases hb
                | some b1 =>
                  obtain ⟨u, v, k1, k2, k3⟩ := plan_ok d el (q + o) (j * P.cellsOf el) p1 e1 D _ xs' ys' b1 w (by omega) hle wx wy hc1
                  rw [hc1] at hb
                  simp only [Sem.run_bind, k1, Result.andThen_ok, k2, k3]
                  cases b1 with
                  | true => simp only at hb; simpa using ih p2 b e2 hb
                  | false => simp only [Option.some.injEq] at hb; subst hb; simp
              · cases h
        exact key (List.range m) plan b h hb
    · cases h
section
variable {P : Program} {d : Option Tmp} {t t2 t3 : TypeId} {pos : String} {af : Array Edge} {g : Option (Nat × Bool)}
theorem eqs_run {x y : Operand} {l : List (Nat × Nat)} {fs : Array Field} (hu : P.underlying t2 = some (.struct fs)) (hg : P.eqGuardType P.depth t2 = false) {k0 : Nat} (hk0 : k0 ≤ 9000) (hl : planT P (k0 + 1) t2 0 = some l) {G : Gh} {a : Act} {w : World} {c e : List AV} {b : Bool} (hp : VR G (.agg c) (a.eval x)) (hq : VR G (.agg e) (a.eval y)) (hb : cellsEq c e l = some b) :
    (execOp a.eval ⟨d, .binOp .eql t2 x y t3, t, pos, af, g⟩).run P w = .ok (.value (.bool b)) w ∧ (execOp a.eval ⟨d, .binOp .neq t2 x y t3, t, pos, af, g⟩).run P w = .ok (.value (.bool !b)) w := by
  simp only [VR] at hp hq
  obtain ⟨xs, h1, h2⟩ := hp
  obtain ⟨ys, h3, h4⟩ := hq
  have win : ∀ {c : List AV} {xs : List Value}, VRs G c xs → Win G c 0 (P.cellsOf t2) ⟨xs⟩ := fun h j a _ ha => by
    rw [Nat.zero_add] at ha
    obtain ⟨v, k1, k2⟩ := VRs_get h ha
    exact ⟨v, by simpa using k1, k2⟩
  have hi : ∃ i, P.info? t2 = some i := by
    simp only [planT, hu] at hl
    split at hl
    · cases hl
    · rename_i hc
      cases hh : P.info? t2 with
      | none => exact absurd (Or.inr (by rw [hh]; rfl)) hc
      | some i => exact ⟨i, rfl⟩
  have hst : P.stoodInHeld t2 = false := by
    simp only [planT, hu] at hl
    split at hl
    · cases hl
    · rename_i hc
      cases hh : P.stoodInHeld t2 with
      | false => rfl
      | true => exact absurd (Or.inl hh) hc
  have hfs : P.fieldsOf t2 = fs := by simp [Program.fieldsOf, hu]
  have key : (Op.equalIn 10000 t2 (.agg ⟨xs⟩) (.agg ⟨ys⟩)).run P w = .ok b w := by
    rw [run_equalIn_struct w 9999 t2 _ _ (by rw [hfs]; exact hu) hst, hfs]
    simp only [planT, hu] at hl
    split at hl
    · cases hl
    · have wx := win h2
      have wy := win h4
      have key : ∀ (l : List Field) (plan : List (Nat × Nat)) (b : Bool), planFs P (planT P k0) (P.cellsOf t2) 0 l = some plan → cellsEq c e plan = some b → (Op.eqFields 9999 ⟨xs⟩ ⟨ys⟩ l).run P w = .ok b w := by
        intro l
        induction l with
        | nil => intro plan b h hb; simp only [planFs, Option.some.injEq] at h; subst h; simp only [cellsEq, Option.some.injEq] at hb; subst hb; rfl
        | cons f r ih =>
          intro plan b h hb
          simp only [planFs] at h
          split at h
          · cases h
          · rename_i hf
            split at h
            · rename_i p1 p2 e1 e2
              simp only [Option.some.injEq] at h; subst h
              rw [cellsEq_app] at hb
              have hle : f.offset + P.cellsOf f.type ≤ P.cellsOf t2 := by
                apply Nat.le_of_not_lt; intro hlt; exact hf (Or.inr hlt)
              have hnm : f.name ≠ "_" := fun e => hf (Or.inl e)
              simp only [Op.eqFields]
              rw [if_pos hnm]
              cases hc1 : cellsEq c e p1 with
              | none => rw [hc1] at hb; cases hb
              | some b1 =>
                obtain ⟨u, v, k1, k2, k3⟩ := plan_ok k0 f.type 0 f.offset p1 e1 9999 _ ⟨xs⟩ ⟨ys⟩ b1 w (by omega) hle wx wy hc1
                rw [hc1] at hb
                simp only [Sem.run_bind, k1, Result.andThen_ok, k2, k3]
                cases b1 with
                | true => simp only at hb; simpa using ih p2 b e2 hb
                | false => simp only [Option.some.injEq] at hb; subst hb; simp
            · cases h
      exact key fs.toList l b hl hb
  constructor
  · simp only [execOp, h1, h3, Sem.run_bind, run_eqGuard_agg (w := w) .eql t2 x y ⟨xs⟩ ⟨ys⟩ hg, Result.andThen_ok, run_eql_struct, key]; rfl
  · simp only [execOp, h1, h3, Sem.run_bind, run_eqGuard_agg (w := w) .neq t2 x y ⟨xs⟩ ⟨ys⟩ hg, Result.andThen_ok, run_neq_struct, key]; rfl
theorem ok_eqKt {x y : Operand} {kx ky : AX} (hx : cX x = some kx) (hy : cX y = some ky) {k : KO} (hk : eqK P t2 false kx ky = some k) : OpOk P ⟨d, .binOp .eql t2 x y t3, t, pos, af, g⟩ k := by
  unfold eqK at hk
  split at hk
  · rename_i m hm
    simp only [Option.some.injEq] at hk; subst hk
    exact ok_eql hx hy hm
  · split at hk
    · rename_i fs hu
      split at hk
      · cases hk
      · rename_i hg
        obtain ⟨l, hl, rfl⟩ := Option.map_eq_some_iff.1 hk
        exact OpOk.pure fun call B w0 G h w a ts v h' h1 h2 h3 => by
          simp only [oEqS] at h3
          split at h3
          · rename_i c e e1 e2
            split at h3
            · rename_i b hb
              simp only [Option.some.injEq, Prod.mk.injEq] at h3
              obtain ⟨rfl, rfl⟩ := h3
              have r1 := cX_ok hx h1
              have r2 := cX_ok hy h1
              rw [e1] at r1; rw [e2] at r2
              exact ⟨rfl, .bool b, (eqs_run hu (by simpa using hg) (k0 := 8) (by decide) hl r1 r2 hb).1, by simp [VR]⟩
            · cases h3
          · cases h3
    · cases hk
theorem ok_eqKf {x y : Operand} {kx ky : AX} (hx : cX x = some kx) (hy : cX y = some ky) {k : KO} (hk : eqK P t2 true kx ky = some k) : OpOk P ⟨d, .binOp .neq t2 x y t3, t, pos, af, g⟩ k := by
  unfold eqK at hk
  split at hk
  · rename_i m hm
    simp only [Option.some.injEq] at hk; subst hk
    exact ok_neq hx hy hm
  · split at hk
    · rename_i fs hu
      split at hk
      · cases hk
      · rename_i hg
        obtain ⟨l, hl, rfl⟩ := Option.map_eq_some_iff.1 hk
        exact OpOk.pure fun call B w0 G h w a ts v h' h1 h2 h3 => by
          simp only [oEqS] at h3
          split at h3
          · rename_i c e e1 e2
            split at h3
            · rename_i b hb
              simp only [Option.some.injEq, Prod.mk.injEq] at h3
              obtain ⟨rfl, rfl⟩ := h3
              have r1 := cX_ok hx h1
              have r2 := cX_ok hy h1
              rw [e1] at r1; rw [e2] at r2
              exact ⟨rfl, .bool !b, (eqs_run hu (by simpa using hg) (k0 := 8) (by decide) hl r1 r2 hb).2, by simp [VR]⟩
            · cases h3
          · cases h3
    · cases hk
/-- An element's address is told alike at each world. -/
theorem iaddrK_late {x i : Operand} {kx ki : AX} {k : KO} (hk : iaddrK P t2 kx ki = some k) {G : Gh} {a : Act} {ts : Tmps} (r1 : VR G (kx ts) (a.eval x)) (r2 : VR G (ki ts) (a.eval i)) {call : Fn} {h h' : AH} {v : AV} (h3 : k call ts h = some (v, h')) :
    ∃ u, (∀ w, (execOp a.eval ⟨d, .indexAddr t2 x i, t, pos, af, g⟩).run P w = .ok (.value u) w) ∧ VR G v u := by
  unfold iaddrK at hk
  split at hk
  · rename_i e0 hu
    obtain ⟨n, hn, rfl⟩ := Option.map_eq_some_iff.1 hk
    simp only [oIaddr] at h3
    split at h3
    · rename_i cs len s k m e1 e2
      split at h3
      · rename_i hc
        simp only [Option.some.injEq, Prod.mk.injEq] at h3
        obtain ⟨rfl, rfl⟩ := h3
        rw [e1] at r1; rw [e2] at r2
        simp only [VR] at r1 r2
        obtain ⟨q2, q3, ⟨_, h0, _⟩ | ⟨r, p, ad, cap, q4, q5, q6, q7, q8, q9, q10, q11⟩⟩ := r1
        · omega
        have hcap : ad = ⟨r.b, p - r.base, none⟩ := by
          rcases q11 with h0 | h0
          · omega
          · exact h0.1
        subst hcap
        refine ⟨.pointer (some ⟨r.b, p - r.base + m.toNat * n, none⟩), fun w => ?_, ?_⟩
        · simp [execOp, Instr.indexAt, q5, r2, asIntOf, run_und hu, hc.1, hc.2.1, run_size hn, add_at]
        · simp only [VR]; exact ⟨r, p, q4, q6, q7, q8, q10, rfl⟩
      · cases h3
    · cases h3
  · rename_i len e0 hu
    obtain ⟨n, hn, rfl⟩ := Option.map_eq_some_iff.1 hk
    simp only [oIaddrA] at h3
    split at h3
    · rename_i j o k m e1 e2
      split at h3
      · rename_i hc
        simp only [Option.some.injEq, Prod.mk.injEq] at h3
        obtain ⟨rfl, rfl⟩ := h3
        rw [e1] at r1; rw [e2] at r2
        simp only [VR] at r1 r2
        obtain ⟨b, hb, hv⟩ := r1
        refine ⟨.pointer (some ⟨b, o + m.toNat * n, none⟩), fun w => ?_, ?_⟩
        · simp [execOp, Instr.indexAt, hv, r2, asIntOf, Instr.sureAddr, run_und hu, hc.1, hc.2, run_size hn, add_at]
        · simp only [VR]; exact ⟨b, hb, rfl⟩
      · cases h3
    · rename_i cs o s k m e1 e2
      split at h3
      · rename_i hc
        simp only [Option.some.injEq, Prod.mk.injEq] at h3
        obtain ⟨rfl, rfl⟩ := h3
        rw [e1] at r1; rw [e2] at r2
        simp only [VR] at r1 r2
        obtain ⟨r, p, q1, q3, q4, q5, q6, hv⟩ := r1
        refine ⟨.pointer (some ⟨r.b, p - r.base + (o + m.toNat * n), none⟩), fun w => ?_, ?_⟩
        · simp [execOp, Instr.indexAt, hv, r2, asIntOf, Instr.sureAddr, run_und hu, hc.1, hc.2, run_size hn, add_at, Nat.add_assoc]
        · simp only [VR]; exact ⟨r, p, q1, q3, q4, q5, q6, rfl⟩
      · cases h3
    · cases h3
  · cases hk
theorem iaddrK_silent {x i : AX} {k : KO} (hk : iaddrK P t2 x i = some k) {call : Fn} {ts : Tmps} {h h' : AH} {v : AV} (h3 : k call ts h = some (v, h')) : h' = h := by
  rcases iaddrK_cases hk with ⟨s, rfl⟩ | ⟨n, s, rfl⟩
  · unfold oIaddr at h3; (repeat' split at h3) <;> first | (cases h3; done) | (simp only [Option.some.injEq, Prod.mk.injEq] at h3; exact h3.2.symm)
  · unfold oIaddrA at h3; (repeat' split at h3) <;> first | (cases h3; done) | (simp only [Option.some.injEq, Prod.mk.injEq] at h3; exact h3.2.symm)
theorem ok_iaddrK {x i : Operand} {kx ki : AX} (hx : cX x = some kx) (hi : cX i = some ki) {k : KO} (hk : iaddrK P t2 kx ki = some k) : OpOk P ⟨d, .indexAddr t2 x i, t, pos, af, g⟩ k :=
  OpOk.pure fun call B w0 G h w a ts v h' h1 h2 h3 => by
    obtain ⟨u, h4, h5⟩ := iaddrK_late (d := d) (t := t) (pos := pos) (af := af) (g := g) hk (cX_ok hx h1) (cX_ok hi h1) h3
    exact ⟨iaddrK_silent hk h3, u, h4 w, h5⟩
end
end Go.Proofs.Ytadohhhjpbhhoaa.EvA
