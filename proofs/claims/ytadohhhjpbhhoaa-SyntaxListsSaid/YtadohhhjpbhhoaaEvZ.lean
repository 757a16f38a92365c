/- An evaluator of the program's code over abstract values and an abstract heap: regions whose reads may stand elsewhere, in any order. -/
import Derived.Test.YtadohhhjpbhhoaaEvY
namespace Go.Proofs.Ytadohhhjpbhhoaa.EvA
open Go.RowKit
set_option linter.unusedVariables false
set_option linter.unusedSimpArgs false
variable {D : List Deferred} {z : Bool}
theorem least {Q : Nat → Prop} : ∀ (k : Nat), Q k → ∃ x, x ≤ k ∧ Q x ∧ ∀ m, m < x → ¬ Q m := by
  intro k
  induction k using Nat.strongRecOn with
  | _ k ih =>
    intro hk
    by_cases h : ∃ m, m < k ∧ Q m
    · obtain ⟨m, hm, hq⟩ := h
      obtain ⟨x, h1, h2, h3⟩ := ih m hm hq
      exact ⟨x, by omega, h2, h3⟩
    · exact ⟨k, Nat.le_refl _, hk, fun m hm hq => h ⟨m, hm, hq⟩⟩
theorem most {Q : Nat → Prop} : ∀ (p : Nat), (∃ k, k < p ∧ Q k) → ∃ x, x < p ∧ Q x ∧ ∀ k, x < k → k < p → ¬ Q k
  | 0, h => by obtain ⟨k, hk, _⟩ := h; omega
  | p + 1, h => by
    by_cases hp : Q p
    · exact ⟨p, by omega, hp, fun k h1 h2 => by omega⟩
    · obtain ⟨k, hk, hq⟩ := h
      have : k ≠ p := fun e => hp (e ▸ hq)
      obtain ⟨x, h1, h2, h3⟩ := most p ⟨k, by omega, hq⟩
      refine ⟨x, by omega, h2, fun m h4 h5 => ?_⟩
      by_cases e : m = p
      · rw [e]; exact hp
      · exact h3 m h4 (by omega)
section
variable {P : Program} {ops : Array Oper} {call : Fn} {T : Nat → Tmps} {H : Nat → AH}
def opAt (ops : Array Oper) (i : Nat) : Oper := ops.getD i default
theorem run_val (hr : Run z P ops call T H) {i : Nat} (hi : i < ops.size) : ∃ kv v, kVal z P ops (opAt ops i) = some kv ∧ kv call (T i) (H i) = some (v, H (i + 1)) ∧ T (i + 1) = putT (T i) (opAt ops i).dst v := by
  obtain ⟨st, h1, h2⟩ := hr.step i hi
  obtain ⟨kv, k1, k2⟩ := kStep_val h1
  rw [k2] at h2
  obtain ⟨⟨v, h'⟩, e1, e2⟩ := Option.map_eq_some_iff.1 h2
  simp only [Prod.mk.injEq] at e2
  obtain ⟨e2, rfl⟩ := e2
  exact ⟨kv, v, k1, e1, e2.symm⟩
theorem putT_length (ts : Tmps) (d : Option Nat) (v : AV) : (putT ts d v).length = ts.length := by
  cases d with
  | none => rfl
  | some d => exact upd_length ts v d
theorem run_len (hr : Run z P ops call T H) : ∀ i, i ≤ ops.size → (T i).length = (T 0).length
  | 0, _ => rfl
  | i + 1, h => by
    obtain ⟨kv, v, _, _, e⟩ := run_val hr (show i < ops.size by omega)
    rw [e, putT_length, run_len hr i (by omega)]
theorem run_keep (hr : Run z P ops call T H) {t i : Nat} : ∀ m, i ≤ m → m ≤ ops.size → (∀ k, i ≤ k → k < m → (opAt ops k).dst ≠ some t) → nth (T m) t = nth (T i) t
  | 0, h1, _, _ => by have : i = 0 := by omega
                      subst this; rfl
  | m + 1, h1, h2, hk => by
    by_cases e : i = m + 1
    · subst e; rfl
    · obtain ⟨kv, v, _, _, e2⟩ := run_val hr (show m < ops.size by omega)
      have hd := hk m (by omega) (by omega)
      rw [e2]
      have ih := run_keep hr m (by omega) (by omega) fun k q1 q2 => hk k q1 (by omega)
      cases hdst : (opAt ops m).dst with
      | none => exact ih
      | some d =>
        simp only [putT]
        rw [nth_upd_ne (fun e => hd (by rw [hdst, e]))]
        exact ih
theorem run_heap (hr : Run z P ops call T H) {a : Nat} : ∀ b, a ≤ b → b ≤ ops.size → (∀ k, a ≤ k → k < b → ¬ 2 ≤ clsZ z (opAt ops k).op) → H b = H a
  | 0, h1, _, _ => by have : a = 0 := by omega
                      subst this; rfl
  | b + 1, h1, h2, hk => by
    by_cases e : a = b + 1
    · subst e; rfl
    · obtain ⟨kv, v, k1, k2, _⟩ := run_val hr (show b < ops.size by omega)
      rw [kVal_eff k1 (hk b (by omega) (by omega)) call _ _ _ _ k2]
      exact run_heap hr b (by omega) (by omega) fun k q1 q2 => hk k q1 (by omega)
variable {m q : Nat} (hfl : flT z m q ops ops.size = true)
include hfl
theorem fl_pair {i j : Nat} (hij : i < j) (hj : j < ops.size) : flPair z m q ops (opAt ops i) (opAt ops j) i j = true := (flT_spec hfl j hj).1 i hij
theorem fl_back : ∀ j, j < ops.size → backT ops j = true := fun j hj => (flT_spec hfl j hj).2.2
theorem fl_after {i j t : Nat} (hij : j ≤ i) (hi : i < ops.size) (ht : t ∈ looks ops (opAt ops j)) : (opAt ops i).dst ≠ some t := by
  intro e
  by_cases h : i = j
  · subst h
    have : dstIn (looks ops (opAt ops i)) (opAt ops i).dst = false := (flT_spec hfl i hi).2.1
    rw [e] at this
    simp [dstIn] at this
    exact this ht
  · have := fl_pair hfl (show j < i by omega) hi
    simp only [flPair, e, dstIn, Bool.and_eq_true, Bool.not_eq_true'] at this
    simp at this
    exact this.1.1 ht
theorem fl_ahead {i j t : Nat} (hij : i < j) (hj : j < ops.size) (ht : t ∈ looks ops (opAt ops j)) (hd : (opAt ops i).dst = some t) : predT ops 12 i j = true := by
  have := fl_pair hfl hij hj
  simp only [flPair, hd, dstIn, Bool.and_eq_true, Bool.or_eq_true, Bool.not_eq_true'] at this
  rcases this.2 with h | h
  · exact h
  · simp at h; exact absurd ht h.1
theorem fl_eff {i j : Nat} (hij : i < j) (hj : j < ops.size) (hi2 : 2 ≤ clsZ z (opAt ops i).op) (hj2 : 2 ≤ clsZ z (opAt ops j).op) (hl : ¬ (m ≤ j ∧ j < m + q)) : predT ops 12 i j = true := by
  have := fl_pair hfl hij hj
  simp only [flPair, Bool.and_eq_true, Bool.or_eq_true, Bool.not_eq_true'] at this
  rcases this.2 with h | ⟨_, h⟩
  · exact h
  · rcases h with h | ⟨h3, h4⟩
    · simp [hi2, hj2] at h
    · exact absurd ⟨Nat.le_of_ble_eq_true h3, Nat.le_of_ble_eq_true h4⟩ hl
theorem fl_dst {i j d : Nat} (hne : i ≠ j) (hi : i < ops.size) (hj : j < ops.size) (h1 : (opAt ops i).dst = some d) : (opAt ops j).dst ≠ some d := by
  intro h2
  rcases Nat.lt_or_gt_of_ne hne with h | h
  · have := fl_pair hfl h hj
    simp [flPair, h1, h2] at this
  · have := fl_pair hfl h hi
    simp [flPair, h1, h2] at this
end
/-- Where a run in some order stands. -/
structure At (z : Bool) (ops : Array Oper) (T : Nat → Tmps) (H : Nat → AH) (listed : Array Bool) (ts : Tmps) (h : AH) (p : Nat) : Prop where
  len : ts.length = (T 0).length
  done : ∀ i t, i < ops.size → listed.getD i false = true → (opAt ops i).dst = some t → nth ts t = nth (T ops.size) t
  rest : ∀ t, (∀ i, i < ops.size → listed.getD i false = true → (opAt ops i).dst ≠ some t) → nth ts t = nth (T 0) t
  ple : p ≤ ops.size
  eff : ∀ i, i < ops.size → 2 ≤ clsZ z (opAt ops i).op → (listed.getD i false = true ↔ i < p)
  heap : h = H p
theorem fl_any {m q : Nat} {P : Program} {ops : Array Oper} {call : Fn} {T : Nat → Tmps} {H : Nat → AH} {B : Nat → Prop} {w0 : World} (hc : CallOk P B w0 call) (hfl : flT z m q ops ops.size = true) (hr : Run z P ops call T H)
    (hck : ∀ j, j < ops.size → clsZ z (opAt ops j).op = 1 → ∀ x ∈ spots z ops j, ∃ k d v h', kVal z P ops (opAt ops j) = some k ∧ (opAt ops j).dst = some d ∧ k call (T ops.size) (H x) = some (v, h') ∧ v = nth (T ops.size) d) {Q : Exit → Act → World → Prop} :
    ∀ (fuel : Nat) (rem : List Nat), rem.length = fuel → ∀ (listed : Array Bool) (G : Gh) (h : AH) (w : World) (a : Act) (ts : Tmps) (p : Nat), rem.Nodup → (∀ i, i ∈ rem ↔ i < ops.size ∧ listed.getD i false = false) → listed.size = ops.size → Closed ops listed → (∀ k, m ≤ k → k < m + q → listed.getD k false = true) →
    VRs G ts a.tmps.toList → WR B w0 G h w → a.defers = D → At z ops T H listed ts h p → (∀ a' w', Sim D B w0 G (T ops.size) (H ops.size) a' w' → Q .normal a' w') → wpAny P .any ops Q fuel listed a w := by
  intro fuel
  induction fuel with
  | zero =>
    intro rem hlen listed G h w a ts p hnd hrem hsz hcl hlate h1 h2 hd hat hQ
    have hnil : rem = [] := List.eq_nil_of_length_eq_zero hlen
    subst hnil
    have hall : ∀ i, i < ops.size → listed.getD i false = true := by
      intro i hi
      cases hl : listed.getD i false with
      | true => rfl
      | false => have : i ∈ ([] : List Nat) := (hrem i).2 ⟨hi, hl⟩
                 cases this
    have hts : ts = T ops.size := by
      refine tmps_ext (by rw [hat.len, run_len hr _ (Nat.le_refl _)]) fun t => ?_
      by_cases hx : ∃ i, i < ops.size ∧ (opAt ops i).dst = some t
      · obtain ⟨i, hi, hdt⟩ := hx
        exact hat.done i t hi (hall i hi) hdt
      · rw [hat.rest t (fun i hi _ e => hx ⟨i, hi, e⟩)]
        exact (run_keep hr _ (Nat.zero_le _) (Nat.le_refl _) fun k _ hk e => hx ⟨k, hk, e⟩).symm
    have hh : h = H ops.size := by
      rw [hat.heap]
      exact (run_heap hr _ hat.ple (Nat.le_refl _) fun k q1 q2 e => by
        have := (hat.eff k q2 e).1 (hall k q2); omega).symm
    subst hts; subst hh
    refine ⟨?_, hQ a w ⟨G, Gle.refl G, h1, h2, hd⟩⟩
    cases hrd : Region.ready .any ops listed with
    | nil => rfl
    | cons x xs =>
      have hx : x ∈ Region.ready .any ops listed := by rw [hrd]; exact List.mem_cons_self ..
      obtain ⟨hl, o, ho, _⟩ := mem_ready.1 hx
      have hlt : x < ops.size := (Array.getElem?_eq_some_iff.1 ho).1
      have := hall x hlt
      simp [hsz, hlt] at hl this
      rw [hl] at this; cases this
  | succ fuel ih =>
    intro rem hlen listed G h w a ts p hnd hrem hsz hcl hlate h1 h2 hd hat hQ
    constructor
    · intro hrd
      exfalso
      have hall : ∀ i, i < ops.size → listed.getD i false = true := by
        intro i
        induction i using Nat.strongRecOn with
        | _ i ihi =>
          intro hi
          cases hl : listed.getD i false with
          | true => rfl
          | false =>
            have hback := fl_back hfl i hi
            have ho : ops[i]? = some ops[i] := by simp [hi]
            have hin : i ∈ Region.ready .any ops listed := by
              rw [mem_ready]
              refine ⟨by simp [hsz, hi] at hl ⊢; exact hl, ops[i], ho, fun e he hb => ?_⟩
              simp only [backT, ho, List.all_eq_true, Bool.or_eq_true, Bool.not_eq_true', decide_eq_true_eq] at hback
              have hlt2 : e.on < i := (hback e (by simpa using he)).resolve_left (by simp [hb])
              exact ihi e.on hlt2 (by omega)
            rw [hrd] at hin; cases hin
      cases rem with
      | nil => cases hlen
      | cons i0 rest =>
        obtain ⟨q1, q2⟩ := (hrem i0).1 (List.mem_cons_self ..)
        rw [hall i0 q1] at q2; cases q2
    · intro j hj
      obtain ⟨hl, o, ho, hallp⟩ := mem_ready.1 hj
      have hlt : j < ops.size := (Array.getElem?_eq_some_iff.1 ho).1
      have hun : listed.getD j false = false := by simp [hsz, hlt] at hl ⊢; exact hl
      have hoj : opAt ops j = o := by
        have := ho
        simp [hlt] at this
        simp [opAt, hlt, this]
      have hnl : ¬ (m ≤ j ∧ j < m + q) := fun hh => by
        have := hlate j hh.1 hh.2
        rw [hun] at this; cases this
      have hpred : ∀ i, predT ops 12 i j = true → listed.getD i false = true := fun i hp => predT_spec hcl 12 i j o hp ho hallp
      have hlookN : ∀ t ∈ looks ops (opAt ops j), nth (T ops.size) t = nth (T j) t := fun t ht =>
        run_keep hr _ (by omega) (Nat.le_refl _) fun k q1 q2 => fl_after hfl q1 q2 ht
      have hlook : ∀ t ∈ looks ops (opAt ops j), nth ts t = nth (T j) t := by
        intro t ht
        by_cases hx : ∃ i, i < ops.size ∧ (opAt ops i).dst = some t
        · obtain ⟨i, hi, hdt⟩ := hx
          have hij : i < j := by
            rcases Nat.lt_or_ge i j with q | q
            · exact q
            · exact absurd hdt (fl_after hfl q hi ht)
          rw [hat.done i t hi (hpred i (fl_ahead hfl hij hlt ht hdt)) hdt]
          exact hlookN t ht
        · rw [hat.rest t (fun i hi _ e => hx ⟨i, hi, e⟩)]
          exact (run_keep hr _ (Nat.zero_le _) (by omega) fun k _ hk e => hx ⟨k, by omega, e⟩).symm
      obtain ⟨kv, v0, k1, k2, k3⟩ := run_val hr hlt
      have hput0 : ∀ d, (opAt ops j).dst = some d → nth (upd ts v0 d) d = nth (T ops.size) d := by
        intro d hdd
        rw [nth_upd_same (b := T j) (hat.len.trans (run_len hr j (by omega)).symm)]
        have e : upd (T j) v0 d = T (j + 1) := by rw [k3, hdd]; rfl
        rw [e]
        exact (run_keep hr _ (by omega) (Nat.le_refl _) fun k q1 q2 => fl_dst hfl (by omega) hlt q2 hdd).symm
      -- what the step gives
      have key : ∃ v p', kv call ts h = some (v, H p') ∧ (∀ d, (opAt ops j).dst = some d → nth (upd ts v d) d = nth (T ops.size) d) ∧ p' ≤ ops.size ∧ (∀ i, i < ops.size → 2 ≤ clsZ z (opAt ops i).op → ((i = j ∨ listed.getD i false = true) ↔ i < p')) := by
        by_cases hcj : 2 ≤ clsZ z (opAt ops j).op
        · -- an effect
          have hpj : p ≤ j := by
            rcases Nat.lt_or_ge j p with q | q
            · have := (hat.eff j hlt hcj).2 q
              rw [hun] at this; cases this
            · exact q
          have hno : ∀ k, p ≤ k → k < j → ¬ 2 ≤ clsZ z (opAt ops k).op := by
            intro k q1 q2 q3
            have := (hat.eff k (by omega) q3).1 (hpred k (fl_eff hfl q2 hlt q3 hcj hnl))
            omega
          have hh : h = H j := by rw [hat.heap]; exact (run_heap hr j hpj (by omega) hno).symm
          refine ⟨v0, j + 1, ?_, hput0, by omega, fun i hi hi2 => ?_⟩
          · rw [hh, kVal_like k1 hlook, k2]
          · constructor
            · rintro (rfl | hli)
              · omega
              · have := (hat.eff i hi hi2).1 hli; omega
            · intro hij
              by_cases e : i = j
              · exact Or.inl e
              · exact Or.inr (hpred i (fl_eff hfl (by omega) hlt hi2 hcj hnl))
        · have heff : ∀ i, i < ops.size → 2 ≤ clsZ z (opAt ops i).op → ((i = j ∨ listed.getD i false = true) ↔ i < p) := by
            intro i hi hi2
            rw [← hat.eff i hi hi2]
            constructor
            · rintro (rfl | h0)
              · exact absurd hi2 hcj
              · exact h0
            · exact Or.inr
          have hrds := kVal_eff k1 hcj
          have hHj : H (j + 1) = H j := hrds call _ _ _ _ k2
          have same0 : h = H j → ∃ v p', kv call ts h = some (v, H p') ∧ (∀ d, (opAt ops j).dst = some d → nth (upd ts v d) d = nth (T ops.size) d) ∧ p' ≤ ops.size ∧ (∀ i, i < ops.size → 2 ≤ clsZ z (opAt ops i).op → ((i = j ∨ listed.getD i false = true) ↔ i < p')) := by
            intro hh
            refine ⟨v0, p, ?_, hput0, hat.ple, heff⟩
            rw [kVal_like k1 hlook, ← hat.heap, hh, k2, hHj]
          have at0 : ∀ x, x ∈ spots z ops j → clsZ z (opAt ops j).op = 1 → h = H x → ∃ v p', kv call ts h = some (v, H p') ∧ (∀ d, (opAt ops j).dst = some d → nth (upd ts v d) d = nth (T ops.size) d) ∧ p' ≤ ops.size ∧ (∀ i, i < ops.size → 2 ≤ clsZ z (opAt ops i).op → ((i = j ∨ listed.getD i false = true) ↔ i < p')) := by
            intro x hx hc1 hh
            obtain ⟨k', d, v, h', q1, q2, q3, q4⟩ := hck j hlt hc1 x hx
            obtain rfl := Option.some.inj (k1.symm.trans q1)
            have hh' := hrds call _ _ _ _ q3
            subst hh'
            refine ⟨v, p, ?_, fun d' hd' => ?_, hat.ple, heff⟩
            · rw [← hat.heap, hh, kVal_like k1 (t2 := T ops.size) (fun t ht => (hlook t ht).trans (hlookN t ht).symm), q3]
            · obtain rfl := Option.some.inj (q2.symm.trans hd')
              rw [nth_upd_get]
              split
              · exact q4
              · rename_i hge
                rw [nth_getD, List.getD_eq_getElem?_getD, List.getElem?_eq_none (by rw [run_len hr _ (Nat.le_refl _), ← hat.len]; omega)]; rfl
          have hcc : clsZ z (opAt ops j).op = 0 ∨ clsZ z (opAt ops j).op = 1 := by omega
          rcases hcc with hc0 | hc1
          · -- it touches no heap
            refine ⟨v0, p, ?_, hput0, hat.ple, heff⟩
            rw [kVal_like k1 hlook, kVal_sil k1 hc0 call call (T j) (H j) h, k2, ← hat.heap]; rfl
          · rcases Nat.lt_or_ge j p with hjp | hpj
            · by_cases hx : ∃ k, k < p ∧ (j < k ∧ 2 ≤ clsZ z (opAt ops k).op)
              · obtain ⟨x, q1, ⟨q2, q3⟩, q4⟩ := most p hx
                have hpn := hat.ple
                refine at0 (x + 1) ?_ hc1 (by rw [hat.heap]; exact run_heap hr p (by omega) hat.ple fun k r1 r2 r3 => q4 k (by omega) r2 ⟨by omega, r3⟩)
                have hxl : listed.getD x false = true := (hat.eff x (by omega) q3).2 q1
                have hnp : predT ops 12 j x = false := by
                  cases hp : predT ops 12 j x with
                  | false => rfl
                  | true =>
                    have hox : ops[x]? = some ops[x] := by simp [show x < ops.size by omega]
                    have := predT_spec hcl 12 j x _ hp hox (hcl x _ hox hxl)
                    rw [hun] at this; cases this
                unfold spots
                refine List.mem_filterMap.2 ⟨x, List.mem_range.2 (by omega), ?_⟩
                have q3' : decide (2 ≤ clsZ z (ops.getD x default).op) = true := decide_eq_true q3
                rw [if_pos q3', if_neg (by omega), hnp]; rfl
              · refine same0 ?_
                rw [hat.heap]
                rw [run_heap hr p (show j + 1 ≤ p by omega) hat.ple fun k r1 r2 r3 => hx ⟨k, r2, by omega, r3⟩]
                exact hHj
            · by_cases hx : ∃ k, p ≤ k ∧ k < j ∧ 2 ≤ clsZ z (opAt ops k).op
              · obtain ⟨k0, hk0⟩ := hx
                obtain ⟨x, q0, ⟨q1, q2, q3⟩, q4⟩ := least (Q := fun k => p ≤ k ∧ k < j ∧ 2 ≤ clsZ z (opAt ops k).op) k0 hk0
                refine at0 x ?_ hc1 (by rw [hat.heap]; exact (run_heap hr x q1 (by omega) fun k r1 r2 r3 => q4 k r2 ⟨r1, by omega, r3⟩).symm)
                have hnp : predT ops 12 x j = false := by
                  cases hp : predT ops 12 x j with
                  | false => rfl
                  | true => have := (hat.eff x (by omega) q3).1 (hpred x hp); omega
                unfold spots
                refine List.mem_filterMap.2 ⟨x, List.mem_range.2 (by omega), ?_⟩
                have q3' : decide (2 ≤ clsZ z (ops.getD x default).op) = true := decide_eq_true q3
                rw [if_pos q3', if_pos q2, hnp]; rfl
              · refine same0 ?_
                rw [hat.heap]
                exact (run_heap hr j hpj (by omega) fun k r1 r2 r3 => hx ⟨k, r1, r2, r3⟩).symm
      obtain ⟨v, p', kk, hput, hp', heff'⟩ := key
      obtain ⟨st, hst, _⟩ := hr.step j hlt
      obtain ⟨kv2, k1', hval⟩ := kStep_val hst
      obtain rfl := Option.some.inj (k1.symm.trans k1')
      have hjs : j < listed.size := by rw [hsz]; exact hlt
      have hstep := step_ok (Q := Q) (o := opAt ops j) hst hc h1 h2 hd (ts' := putT ts (opAt ops j).dst v) (h' := H p') (by rw [hval, kk]; rfl) (K := wpAny P .any ops Q fuel (listed.setIfInBounds j true)) (by
        rintro a' w' ⟨G', g1, g2, g3, g4⟩
        refine ih (rem.erase j) ?_ _ G' (H p') w' a' _ p' (hnd.erase j) ?_ (by simpa using hsz) ?_ (fun k q1 q2 => by rw [set_get hjs]; split <;> first | rfl | exact hlate k q1 q2) g2 g3 g4 ?_ (fun a2 w2 s => hQ a2 w2 (s.le g1))
        · rw [List.length_erase_of_mem ((hrem j).2 ⟨hlt, hun⟩)]; omega
        · intro i
          rw [hnd.mem_erase_iff, set_get hjs, hrem i]
          by_cases hij : i = j
          · simp [hij]
          · simp [hij]
        · intro i oi hoi hli e he hb
          rw [set_get hjs] at hli ⊢
          split
          · rfl
          · by_cases hij : i = j
            · subst hij
              have : oi = o := Option.some.inj (hoi.symm.trans ho)
              subst this
              exact hallp e he hb
            · rw [if_neg hij] at hli
              exact hcl i oi hoi hli e he hb
        · refine ⟨by rw [putT_length, hat.len], ?_, ?_, hp', ?_, rfl⟩
          · intro i t hi hli hdt
            rw [set_get hjs] at hli
            by_cases hij : i = j
            · subst hij
              rw [hdt]; exact hput t hdt
            · rw [if_neg hij] at hli
              have := hat.done i t hi hli hdt
              cases hdj : (opAt ops j).dst with
              | none => exact this
              | some d =>
                simp only [putT]
                rw [nth_upd_ne (fun e => fl_dst hfl hij hi hlt hdt (by rw [hdj, e]))]
                exact this
          · intro t hn
            have h0 := hat.rest t fun i hi hli => hn i hi (by rw [set_get hjs]; split <;> first | rfl | exact hli)
            cases hdj : (opAt ops j).dst with
            | none => exact h0
            | some d =>
              simp only [putT]
              have := hn j hlt (by rw [set_get hjs, if_pos rfl])
              rw [nth_upd_ne (fun e => this (by rw [hdj, e]))]
              exact h0
          · intro i hi hi2
            rw [set_get hjs, ← heff' i hi hi2]
            by_cases hij : i = j
            · simp [hij]
            · simp [hij])
      unfold wpOp
      simp only [ho]
      rw [hoj] at hstep
      exact hstep
theorem go_len {α β : Type} {f : α → Option β} : ∀ {l : List α} {r : List β}, l.mapM f = some r → r.length = l.length
  | [], r, h => by simp at h; subst h; rfl
  | x :: l, r, h => by
    simp only [List.mapM_cons, Option.bind_eq_bind, Option.bind_eq_some_iff, Option.pure_def, Option.some.injEq] at h
    obtain ⟨y, _, m, hm, rfl⟩ := h
    simp [go_len hm]
theorem go_get {α β : Type} {f : α → Option β} : ∀ {l : List α} {r : List β}, l.mapM f = some r → ∀ i (hi : i < l.length), ∃ y, f l[i] = some y ∧ r[i]? = some y
  | [], r, h, i, hi => by simp at hi
  | x :: l, r, h, i, hi => by
    simp only [List.mapM_cons, Option.bind_eq_bind, Option.bind_eq_some_iff, Option.pure_def, Option.some.injEq] at h
    obtain ⟨y, hy, m, hm, rfl⟩ := h
    cases i with
    | zero => exact ⟨y, hy, rfl⟩
    | succ i => obtain ⟨z, h1, h2⟩ := go_get hm i (by simpa using hi); exact ⟨z, h1, by simpa using h2⟩
theorem float_ok {P : Program} {ops : Array Oper} {k : KR} (hk : cFl z P ops = some k) {call : Fn} {B : Nat → Prop} {w0 w : World} (hc : CallOk P B w0 call) {Q : Exit → Act → World → Prop} {G : Gh} {h h' : AH} {a : Act} {ts ts' : Tmps} {id : Nat}
    (h1 : VRs G ts a.tmps.toList) (h2 : WR B w0 G h w) (hd : a.defers = D) (h3 : k call ts h = some (ts', h')) (hQ : ∀ a' w', Sim D B w0 G ts' h' a' w' → Q .normal a' w') : (Code.region id ops true).wp P Q a w := by
  unfold cFl at hk
  split at hk
  · cases hk
  · rename_i hT
    simp only [Bool.and_eq_true] at hT
    split at hk
    · rename_i sts c hm hcs
      simp only [Option.some.injEq] at hk; subst hk
      simp only [kFl] at h3
      split at h3
      · cases h3
      · rename_i t2 hs e1
        split at h3
        · rename_i hch
          split at h3
          · rename_i hn e2
            simp only [Option.some.injEq, Prod.mk.injEq] at h3
            obtain ⟨rfl, rfl⟩ := h3
            obtain ⟨T, H, q1, q2, q3, q4, q5⟩ := runHs_run e1
            have hlen : sts.length = ops.size := by have := go_len hm; simpa using this
            have hrun : Run z P ops call T H := ⟨fun i hi => by
              obtain ⟨st, r1, r2⟩ := go_get hm i (by simpa using hi)
              refine ⟨st, ?_, q5 i st r2⟩
              have : ops.toList[i]'(by simpa using hi) = ops.getD i default := by simp [hi]
              rw [← this]; exact r1⟩
            have hTn : T ops.size = t2 := by rw [← hlen]; exact q3
            have hHn : H ops.size = hn := by have := q4 ops.size (by omega); rw [e2] at this; exact (Option.some.inj this).symm
            refine wp_region_any hT.1 (fl_any hc hT.2 hrun ?_ ops.size (List.range ops.size) (by simp) _ G h _ a ts 0 List.nodup_range ?_ (by simp) ?_ (fun k q1 q2 => by omega) h1 h2.drew hd ?_ ?_)
            · intro j hj hc1 x hx
              obtain ⟨kk, d, r1, r2, r3⟩ := cks_spec hcs j hj hc1 x hx
              obtain ⟨hx2, v, h', s1, s2, s3⟩ := chk_spec hch kk d _ r3 x hx
              have hxle : x ≤ ops.size := by
                unfold spots at hx
                obtain ⟨y, hy, hy2⟩ := List.mem_filterMap.1 hx
                have := List.mem_range.1 hy
                revert hy2
                repeat' split
                all_goals (intro e; first | (simp at e; done) | (simp at e; omega))
              have hxe := q4 x (by omega)
              rw [s1] at hxe
              obtain rfl := Option.some.inj hxe
              exact ⟨kk, d, v, h', r1, r2, by rw [hTn]; exact s2, by rw [hTn]; exact s3⟩
            · intro i
              simp only [List.mem_range]
              constructor
              · intro hi; exact ⟨hi, by simp [hi]⟩
              · intro hi; exact hi.1
            · intro j o ho hl
              have hlt : j < ops.size := (Array.getElem?_eq_some_iff.1 ho).1
              simp [hlt] at hl
            · refine ⟨by rw [q1], ?_, ?_, Nat.zero_le _, ?_, q2.symm⟩
              · intro i t hi hl; simp [hi] at hl
              · intro t _; rw [q1]
              · intro i hi _; simp [hi]
            · intro a' w' s
              rw [hTn, hHn] at s
              exact hQ a' w' s
          · cases h3
        · cases h3
    · cases hk
end Go.Proofs.Ytadohhhjpbhhoaa.EvA
