/- An evaluator of the program's code over abstract values and an abstract heap: what came in, told as it lies. -/
import Derived.Test.YtadohhhjpbhhoaaEvLe
import Derived.ChangeArms
import Derived.OpenShut
namespace Go.Proofs.Ytadohhhjpbhhoaa.EvA
open Go.RowKit
set_option linter.unusedVariables false
/-- A type whose values are bools, integers, texts, rows and structs of such; its fields lie one behind the other. -/
def fitFs (P : Program) (ok : TypeId → Bool) (n : Nat) : Nat → List Field → Bool
  | o, [] => Nat.beq o n
  | o, f :: r => Nat.beq f.offset o && ok f.type && fitFs P ok n (o + P.cellsOf f.type) r
def fitT (P : Program) : Nat → TypeId → Bool
  | 0, _ => false
  | d + 1, t => match P.underlying t with
    | some .bool | some (.int _) | some .string => Nat.beq (P.cellsOf t) 1
    | some (.slice e) => Nat.beq (P.cellsOf t) 1 && Nat.blt 0 (P.cellsOf e) && fitT P d e
    | some (.struct fs) => fitFs P (fitT P d) (P.cellsOf t) 0 fs.toList
    | _ => false
/-- What its cells are. -/
def ShFs (P : Program) (sh : TypeId → List AV → Prop) : List Field → List AV → Prop
  | [], as => as = []
  | f :: r, as => ∃ a b, as = a ++ b ∧ a.length = P.cellsOf f.type ∧ sh f.type a ∧ ShFs P sh r b
def lv (n : Nat) : Nat := match n with | 0 => 2 | _ + 1 => 0
def Sh (P : Program) : Nat → TypeId → List AV → Prop
  | 0, _, _ => False
  | d + 1, t, as => match P.underlying t with
    | some .bool => ∃ b, as = [.bool b]
    | some (.int k) => ∃ n, as = [.int k n] ∧ (Lit.int k n).wf = true
    | some .string => ∃ s, as = [.str s] ∧ s.size ≤ maxLen
    | some (.slice e) => as = [.nilrow] ∨ ∃ ess : List (List AV), as = [.row ess.flatten ess.length ⟨0, lv ess.length, 0, P.cellsOf e⟩] ∧ ess.length ≤ maxLen ∧ ∀ es ∈ ess, es.length = P.cellsOf e ∧ Sh P d e es
    | some (.struct fs) => ShFs P (Sh P d) fs.toList as
    | _ => False
section
variable {H : Type} {enc : TypeId × Value → H} {P : Program} {w : World} {base : Nat} {spare : Nat → Bool} {held : Bool}
abbrev lieG (w : World) : Gh := inG fun _ r => Lies w r
theorem row_lies {b off z : Nat} {vss : List (List Value)} {ess : List (List AV)} (hz : 0 < z) (hl : vss.length = ess.length) (hv : ∀ (i : Nat) vs, vss[i]? = some vs → vs.length = z ∧ ∀ (j : Nat) v, vs[j]? = some v → w.cell? ⟨b, off + (i * z + j), none⟩ = some v)
    (he : ∀ (i : Nat) vs es, vss[i]? = some vs → ess[i]? = some es → VRs (lieG w) es vs) (hn : 0 < ess.length) :
    VRs (lieG w) ess.flatten vss.flatten ∧ ess.flatten.length = ess.length * z ∧ ∃ r, Lies w r ∧ r.b = b ∧ r.base = 0 ∧ r.org = off ∧ r.vs = vss.flatten := by
  have h1 : ∀ (vss : List (List Value)) (ess : List (List AV)) , vss.length = ess.length → (∀ (i : Nat) vs es, vss[i]? = some vs → ess[i]? = some es → VRs (lieG w) es vs) → VRs (lieG w) ess.flatten vss.flatten := by
    intro vss
    induction vss with
    | nil => intro ess hl _; cases ess with | nil => simp [VRs] | cons _ _ => cases hl
    | cons vs vss ih =>
      intro ess hl h
      cases ess with
      | nil => cases hl
      | cons es ess =>
        rw [List.flatten_cons, List.flatten_cons]
        exact VRs_app (h 0 vs es rfl rfl) (ih ess (by simpa using hl) fun i a b ha hb => h (i + 1) a b (by simpa using ha) (by simpa using hb))
  have h2 := h1 vss ess hl he
  have h3 : ∀ (vss : List (List Value)), (∀ (i : Nat) vs, vss[i]? = some vs → vs.length = z) → vss.flatten.length = vss.length * z := by
    intro vss
    induction vss with
    | nil => intro _; simp
    | cons vs vss ih =>
      intro h
      rw [List.flatten_cons, List.length_append, ih fun i a ha => h (i + 1) a (by simpa using ha), h 0 vs rfl, List.length_cons, Nat.add_mul]; omega
  have h4 : ∀ (vss : List (List Value)) (o : Nat), (∀ (i : Nat) vs, vss[i]? = some vs → vs.length = z ∧ ∀ (j : Nat) v, vs[j]? = some v → w.cell? ⟨b, o + (i * z + j), none⟩ = some v) → ∀ (j : Nat) v, vss.flatten[j]? = some v → w.cell? ⟨b, o + j, none⟩ = some v := by
    intro vss
    induction vss with
    | nil => intro o _ j v hj; simp at hj
    | cons vs vss ih =>
      intro o h j v hj
      obtain ⟨k1, k2⟩ := h 0 vs rfl
      rw [List.flatten_cons] at hj
      by_cases hjl : j < vs.length
      · rw [List.getElem?_append_left hjl] at hj
        have := k2 j v hj
        simpa using this
      · rw [List.getElem?_append_right (by omega)] at hj
        have := ih (o + z) (fun i a ha => by
          obtain ⟨q1, q2⟩ := h (i + 1) a (by simpa using ha)
          refine ⟨q1, fun j v hj => ?_⟩
          have := q2 j v hj
          rw [Nat.add_mul] at this
          rw [show o + z + (i * z + j) = o + (i * z + 1 * z + j) by omega]; exact this) (j - vs.length) v hj
        rw [show o + z + (j - vs.length) = o + j by omega] at this
        exact this
  have hlen := h3 vss fun i a ha => (hv i a ha).1
  have hel : ess.flatten.length = ess.length * z := by rw [← VRs_length h2, hlen, hl]
  refine ⟨h2, hel, ?_⟩
  have hpos : 0 < vss.flatten.length := by rw [hlen, hl]; exact Nat.mul_pos hn hz
  obtain ⟨v0, hv0⟩ : ∃ v, vss.flatten[0]? = some v := ⟨_, List.getElem?_eq_getElem hpos⟩
  have hcell := h4 vss off hv
  have h0 := hcell 0 v0 hv0
  unfold World.cell? at h0
  simp only at h0
  split at h0
  · rename_i c e f hw
    refine ⟨⟨b, 0, off, vss.flatten, c.size⟩, ⟨(Array.getElem?_eq_some_iff.1 hw).1, Nat.zero_le _, c, e, f, hw, rfl, fun j v hj => ?_⟩, rfl, rfl, rfl, rfl⟩
    have := hcell j v hj
    rw [cell_of hw] at this
    simpa using this
  · simp at h0
theorem open_cells : ∀ (d fuel : Nat) (t : TypeId) (cs : List Value) (x : DataW H × List MemPlace), DataW.trod enc P w base spare held fuel t cs = some x → fitT P d t = true → ∃ as, VRs (lieG w) as cs ∧ Sh P d t as
  | 0, fuel, t, cs, x, h, hf => by cases hf
  | d + 1, fuel, t, cs, x, h, hf => by
    unfold fitT at hf
    unfold Sh
    split at hf
    · rename_i hu
      obtain ⟨b, rfl, _⟩ := DataW.trod_bool hu h
      exact ⟨[.bool b], by simp [VRs, VR], by exact ⟨b, rfl⟩⟩
    · rename_i k hu
      obtain ⟨n, rfl, _, hw⟩ := DataW.trod_int hu h
      exact ⟨[.int k n], by simp [VRs, VR], by exact ⟨n, rfl, hw⟩⟩
    · rename_i hu
      obtain ⟨s, rfl, _, hw⟩ := DataW.trod_string hu h
      exact ⟨[.str s], by simp [VRs, VR], by exact ⟨s, rfl, hw⟩⟩
    · rename_i e hu
      simp only [Bool.and_eq_true] at hf
      obtain ⟨⟨f1, f2⟩, f3⟩ := hf
      have hz : 0 < P.cellsOf e := Nat.le_of_ble_eq_true f2
      rcases DataW.trod_slice hu h with ⟨rfl, _⟩ | ⟨a, len, cap, elems, rest, n, rfl, rfl, _, hb, hl, hm, hlen, hel, _, _⟩
      · exact ⟨[.nilrow], by simp [VRs, VR], by exact Or.inl rfl⟩
      · have each : ∀ i, i < len → ∃ vs es, vs.length = P.cellsOf e ∧ (∀ (j : Nat) v, vs[j]? = some v → w.cell? ((a.add (i * P.cellsOf e)).add j) = some v) ∧ VRs (lieG w) es vs ∧ Sh P d e es := by
          intro i hi
          obtain ⟨y, hy⟩ : ∃ y, elems[i]? = some y := ⟨_, List.getElem?_eq_getElem (by omega)⟩
          have h1 := hel i hi
          rw [hy] at h1
          obtain ⟨vs, h2, h3⟩ := Option.bind_eq_some_iff.1 h1
          obtain ⟨_, k1, k2⟩ := World.cells?_some h2
          obtain ⟨es, k3, k4⟩ := open_cells d n e vs y h3 f3
          refine ⟨vs, es, k1, fun j v hj => ?_, k3, k4⟩
          have := (List.getElem?_eq_some_iff.1 hj).1
          rw [k2 j (by omega)]; exact hj
        rcases Nat.eq_zero_or_pos len with h0 | h0
        · subst h0
          refine ⟨[.row [] 0 ⟨0, 2, 0, P.cellsOf e⟩], ?_, ?_⟩
          · simp only [VRs, VR]
            exact ⟨_, _, rfl, ⟨by simp, hz, Or.inl ⟨trivial, trivial, some a, cap, rfl, fun _ => by simp⟩⟩, rfl⟩
          · exact Or.inr ⟨[], rfl, by simp, fun es h => by cases h⟩
        · have collect : ∀ m, m ≤ len → ∃ (vss : List (List Value)) (ess : List (List AV)), vss.length = m ∧ ess.length = m ∧ (∀ (i : Nat) vs, vss[i]? = some vs → vs.length = P.cellsOf e ∧ ∀ (j : Nat) v, vs[j]? = some v → w.cell? ((a.add (i * P.cellsOf e)).add j) = some v) ∧ (∀ (i : Nat) vs es, vss[i]? = some vs → ess[i]? = some es → VRs (lieG w) es vs) ∧ ∀ es ∈ ess, Sh P d e es := by
            intro m
            induction m with
            | zero => intro _; exact ⟨[], [], rfl, rfl, fun i vs h => by simp at h, fun i vs es h => by simp at h, fun es h => by cases h⟩
            | succ m ih =>
              intro hm
              obtain ⟨vss, ess, q1, q2, q3, q4, q5⟩ := ih (by omega)
              obtain ⟨vs, es, p1, p2, p3, p4⟩ := each m (by omega)
              refine ⟨vss ++ [vs], ess ++ [es], by simp [q1], by simp [q2], ?_, ?_, ?_⟩
              · intro i v hv
                by_cases hi : i < m
                · rw [List.getElem?_append_left (by omega)] at hv; exact q3 i v hv
                · rw [List.getElem?_append_right (by omega)] at hv
                  have hi2 : i = m := by
                    have := (List.getElem?_eq_some_iff.1 hv).1
                    simp at this; omega
                  subst hi2
                  rw [q1, Nat.sub_self] at hv
                  simp at hv; subst hv
                  exact ⟨p1, p2⟩
              · intro i v u hv hu'
                by_cases hi : i < m
                · rw [List.getElem?_append_left (by omega)] at hv hu'; exact q4 i v u hv hu'
                · rw [List.getElem?_append_right (by omega)] at hv hu'
                  have hi2 : i = m := by
                    have := (List.getElem?_eq_some_iff.1 hv).1
                    simp at this; omega
                  subst hi2
                  rw [q1, Nat.sub_self] at hv; rw [q2, Nat.sub_self] at hu'
                  simp at hv hu'; subst hv; subst hu'
                  exact p3
              · intro x hx
                rcases List.mem_append.1 hx with hx | hx
                · exact q5 x hx
                · simp at hx; subst hx; exact p4
          obtain ⟨vss, ess, q1, q2, q3, q4, q5⟩ := collect len (Nat.le_refl _)
          obtain ⟨ab, ao, rfl⟩ : ∃ b o, a = ⟨b, o, none⟩ := by
            obtain ⟨vs, hvs⟩ : ∃ vs, vss[0]? = some vs := ⟨_, List.getElem?_eq_getElem (by omega)⟩
            obtain ⟨k1, k2⟩ := q3 0 vs hvs
            obtain ⟨v, hv⟩ : ∃ v, vs[0]? = some v := ⟨_, List.getElem?_eq_getElem (by omega)⟩
            have := k2 0 v hv
            obtain ⟨b, o, s⟩ := a
            have hs : s = none := by simpa [Addr.add] using World.cell?_spot this
            subst hs
            exact ⟨b, o, rfl⟩
          have hv : ∀ (i : Nat) vs, vss[i]? = some vs → vs.length = P.cellsOf e ∧ ∀ (j : Nat) v, vs[j]? = some v → w.cell? ⟨ab, ao + (i * P.cellsOf e + j), none⟩ = some v := by
            intro i vs h
            obtain ⟨k1, k2⟩ := q3 i vs h
            refine ⟨k1, fun j v hj => ?_⟩
            have := k2 j v hj
            rw [add_at, add_at, Nat.add_assoc] at this
            exact this
          obtain ⟨g1, g2, r, g3, g4, g5, g6, g7⟩ := row_lies hz (by omega) hv q4 (by omega)
          have hvl := VRs_length g1
          have hlv : lv ess.length = 0 := by rw [q2]; cases len with | zero => omega | succ n => rfl
          refine ⟨[.row ess.flatten ess.length ⟨0, lv ess.length, 0, P.cellsOf e⟩], ?_, ?_⟩
          · simp only [VRs, VR]
            refine ⟨_, _, rfl, ⟨g2, hz, Or.inr ⟨r, ao, ⟨ab, ao, none⟩, cap, Or.inl ⟨rfl, g3⟩, by rw [q2], by omega, by omega, ?_, by omega, ?_, Or.inr ⟨?_, Or.inl trivial⟩⟩⟩, rfl⟩
            · rw [g7, g6, hvl]; omega
            · rw [g7, g6, Nat.sub_self, List.drop_zero, ← hvl, List.take_length]; exact g1
            · rw [g4, g5]; rfl
          · refine Or.inr ⟨ess, rfl, by omega, fun es hes => ⟨?_, q5 es hes⟩⟩
            obtain ⟨i, hi⟩ := List.getElem?_of_mem hes
            have hil := (List.getElem?_eq_some_iff.1 hi).1
            obtain ⟨vs, hvs⟩ : ∃ vs, vss[i]? = some vs := ⟨_, List.getElem?_eq_getElem (by omega)⟩
            rw [← VRs_length (q4 i vs es hvs hi)]; exact (q3 i vs hvs).1
    · rename_i fs hu
      obtain ⟨xs, n, rfl, _, hl, hxl, hx⟩ := DataW.trod_struct hu h
      have key : ∀ (l : List Field) (o : Nat), fitFs P (fitT P d) (P.cellsOf t) o l = true → (∀ f ∈ l, ∃ y, DataW.trod enc P w base spare held n f.type ((cs.drop f.offset).take (P.cellsOf f.type)) = some y) → ∃ as, VRs (lieG w) as (cs.drop o) ∧ ShFs P (Sh P d) l as := by
        intro l
        induction l with
        | nil =>
          intro o ho _
          have : o = P.cellsOf t := Nat.eq_of_beq_eq_true ho
          refine ⟨[], ?_, rfl⟩
          rw [List.drop_of_length_le (by omega)]; simp [VRs]
        | cons f r ih =>
          intro o ho hy
          simp only [fitFs, Bool.and_eq_true] at ho
          obtain ⟨⟨o1, o2⟩, o3⟩ := ho
          have ho1 : f.offset = o := Nat.eq_of_beq_eq_true o1
          obtain ⟨y, hy1⟩ := hy f (List.mem_cons_self ..)
          obtain ⟨as, k1, k2⟩ := open_cells d n f.type _ y hy1 o2
          obtain ⟨bs, k3, k4⟩ := ih (o + P.cellsOf f.type) o3 fun g hg => hy g (List.mem_cons_of_mem _ hg)
          rw [ho1] at k1
          have hle : ∀ (l : List Field) (o : Nat), fitFs P (fitT P d) (P.cellsOf t) o l = true → o ≤ P.cellsOf t := by
            intro l
            induction l with
            | nil => intro o h; have : o = P.cellsOf t := Nat.eq_of_beq_eq_true h; omega
            | cons g s ih =>
              intro o h
              simp only [fitFs, Bool.and_eq_true] at h
              have := ih _ h.2; omega
          have hle := hle r _ o3
          refine ⟨as ++ bs, ?_, as, bs, rfl, ?_, k2, k4⟩
          · have e : cs.drop o = (cs.drop o).take (P.cellsOf f.type) ++ cs.drop (o + P.cellsOf f.type) := by rw [← List.drop_drop, List.take_append_drop]
            rw [e]
            exact VRs_app k1 k3
          · rw [← VRs_length k1, List.length_take, List.length_drop]; omega
      obtain ⟨as, h1, h2⟩ := key fs.toList 0 hf fun f hf => by
        obtain ⟨i, hi⟩ := List.getElem?_of_mem hf
        have hi2 : fs[i]? = some f := by simpa using hi
        have := hx i f hi2
        have hil : i < xs.length := by rw [hxl]; exact (Array.getElem?_eq_some_iff.1 hi2).1
        rw [List.getElem?_eq_getElem hil] at this
        exact ⟨_, this⟩
      exact ⟨as, by simpa using h1, by exact h2⟩
    · cases hf
end
/-! Rows of integers and of texts. -/
theorem sh_slice {P : Program} {d : Nat} {t e : TypeId} (ht : P.underlying t = some (.slice e)) {as : List AV} (h : Sh P (d + 1) t as) : as = [.nilrow] ∨ ∃ ess : List (List AV), as = [.row ess.flatten ess.length ⟨0, lv ess.length, 0, P.cellsOf e⟩] ∧ ess.length ≤ maxLen ∧ ∀ es ∈ ess, es.length = P.cellsOf e ∧ Sh P d e es := by
  simp only [Sh, ht] at h; exact h
theorem sh_int {P : Program} {d : Nat} {t : TypeId} {k : IntKind} (ht : P.underlying t = some (.int k)) {as : List AV} (h : Sh P (d + 1) t as) : ∃ n, as = [.int k n] ∧ (Lit.int k n).wf = true := by
  simp only [Sh, ht] at h; exact h
theorem sh_bool {P : Program} {d : Nat} {t : TypeId} (ht : P.underlying t = some .bool) {as : List AV} (h : Sh P (d + 1) t as) : ∃ b, as = [.bool b] := by
  simp only [Sh, ht] at h; exact h
theorem sh_str {P : Program} {d : Nat} {t : TypeId} (ht : P.underlying t = some .string) {as : List AV} (h : Sh P (d + 1) t as) : ∃ s, as = [.str s] ∧ s.size ≤ maxLen := by
  simp only [Sh, ht] at h; exact h
theorem sh_struct {P : Program} {d : Nat} {t : TypeId} {fs : Array Field} (ht : P.underlying t = some (.struct fs)) {as : List AV} (h : Sh P (d + 1) t as) : ShFs P (Sh P d) fs.toList as := by
  simp only [Sh, ht] at h; exact h
/-- A row of data: each element by its own words. -/
theorem sh_row {P : Program} {d : Nat} {t e : TypeId} {α : Type} {z : Nat} (ht : P.underlying t = some (.slice e)) (hz : P.cellsOf e = z) {f : α → List AV} {q : α → Prop} (hf : ∀ as, Sh P d e as → ∃ x, as = f x ∧ q x) (hs : ∀ x, (f x).all scalar = true) {as : List AV} (h : Sh P (d + 1) t as) :
    ∃ (v : AV) (l : List α), as = [v] ∧ RI z v (l.flatMap f) l.length ∧ l.length ≤ maxLen ∧ ∀ x ∈ l, q x := by
  rcases sh_slice ht h with rfl | ⟨ess, rfl, h1, h2⟩
  · exact ⟨.nilrow, [], rfl, .nil, by simp, fun x h => by cases h⟩
  · have key : ∀ ess : List (List AV), (∀ es ∈ ess, es.length = P.cellsOf e ∧ Sh P d e es) → ∃ l : List α, ess.flatten = l.flatMap f ∧ l.length = ess.length ∧ (l.flatMap f).length = l.length * z ∧ (l.flatMap f).all scalar = true ∧ ∀ x ∈ l, q x := by
      intro ess
      induction ess with
      | nil => intro _; exact ⟨[], rfl, rfl, by simp, rfl, fun x h => by cases h⟩
      | cons es ess ih =>
        intro h
        obtain ⟨l, k1, k2, k3, k4, k5⟩ := ih fun x hx => h x (List.mem_cons_of_mem _ hx)
        obtain ⟨p1, p2⟩ := h es (List.mem_cons_self ..)
        obtain ⟨x, rfl, hq⟩ := hf es p2
        refine ⟨x :: l, by rw [List.flatten_cons, k1, List.flatMap_cons], by simp [k2], ?_, ?_, fun y hy => ?_⟩
        · rw [List.flatMap_cons, List.length_append, k3, p1, hz, List.length_cons, Nat.add_mul]; omega
        · rw [List.flatMap_cons, List.all_append, hs x, k4]; rfl
        · rcases List.mem_cons.1 hy with rfl | hy
          · exact hq
          · exact k5 y hy
    obtain ⟨l, k1, k2, k3, k4, k5⟩ := key ess h2
    refine ⟨_, l, rfl, ?_, by omega, k5⟩
    rw [k1, ← k2]
    exact .row rfl hz (fun h => by rw [h]; rfl) k3 k4
theorem flat_one {α : Type} (f : α → AV) (l : List α) : l.flatMap (fun x => [f x]) = l.map f := by
  induction l with
  | nil => rfl
  | cons a l ih => rw [List.flatMap_cons, ih]; rfl
theorem sh_ints {P : Program} {d : Nat} {t e : TypeId} {k : IntKind} (ht : P.underlying t = some (.slice e)) (he : P.underlying e = some (.int k)) (hz : P.cellsOf e = 1) {as : List AV} (h : Sh P (d + 2) t as) :
    ∃ (v : AV) (l : List Int), as = [v] ∧ RI 1 v (l.map (.int k ·)) l.length ∧ l.length ≤ maxLen ∧ ∀ n ∈ l, (Lit.int k n).wf = true := by
  obtain ⟨v, l, h1, h2, h3⟩ := sh_row (f := fun n : Int => [AV.int k n]) (q := fun n => (Lit.int k n).wf = true) ht hz (fun as h => sh_int he h) (fun x => rfl) h
  exact ⟨v, l, h1, by rw [flat_one] at h2; exact h2, h3⟩
theorem sh_strs {P : Program} {d : Nat} {t e : TypeId} (ht : P.underlying t = some (.slice e)) (he : P.underlying e = some .string) (hz : P.cellsOf e = 1) {as : List AV} (h : Sh P (d + 2) t as) :
    ∃ (v : AV) (l : List ByteArray), as = [v] ∧ RI 1 v (l.map .str) l.length ∧ l.length ≤ maxLen ∧ ∀ s ∈ l, s.size ≤ maxLen := by
  obtain ⟨v, l, h1, h2, h3⟩ := sh_row (f := fun s : ByteArray => [AV.str s]) (q := fun s => s.size ≤ maxLen) ht hz (fun as h => sh_str he h) (fun x => rfl) h
  exact ⟨v, l, h1, by rw [flat_one] at h2; exact h2, h3⟩
end Go.Proofs.Ytadohhhjpbhhoaa.EvA
