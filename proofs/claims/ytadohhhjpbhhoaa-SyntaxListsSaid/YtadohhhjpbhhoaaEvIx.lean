/- An evaluator of the program's code over abstract values and an abstract heap: a byte's place in a text, told at once; summaries side by side; closed calls that answer true. -/
import Derived.Test.YtadohhhjpbhhoaaEvEn
import Derived.Laws.StandIn
namespace Go.Proofs.Ytadohhhjpbhhoaa.EvA
open Go.RowKit
set_option linter.unusedVariables false
abbrev Sum := FuncId → Option (List AV → AH → Option (AV × AH))
/-- A byte's place in a row of bytes, from a number on; -1: it is not there. -/
noncomputable def idxOf (c : Nat) (l : List UInt8) : Nat → Int := List.rec (motive := fun _ => Nat → Int) (fun _ => -1) (fun b _ ih i => Bool.rec (ih (Nat.add i 1)) (Int.ofNat i) (Nat.beq b.toNat c)) l
theorem idxOf_cons (c : Nat) (b : UInt8) (l : List UInt8) (i : Nat) : idxOf c (b :: l) i = if b.toNat = c then (i : Int) else idxOf c l (i + 1) := by
  show (Bool.rec (idxOf c l (i + 1)) (Int.ofNat i) (Nat.beq b.toNat c) : Int) = _
  by_cases h : b.toNat = c
  · rw [if_pos h, (show Nat.beq b.toNat c = true by rw [h]; exact Nat.beq_refl c)]; rfl
  · rw [if_neg h]
    cases hb : Nat.beq b.toNat c with
    | false => rfl
    | true => exact absurd (Nat.eq_of_beq_eq_true hb) h
theorem idxOf_is (s : ByteArray) (c : Nat) : ∀ (l : List UInt8) (i : Nat), s.data.toList.drop i = l →
    (match (List.range' i l.length).find? fun i => decide ((s[i]!).toNat = c) with | some i => (i : Int) | none => -1) = idxOf c l i
  | [], i, h => rfl
  | b :: l, i, h => by
    have hlt : i < s.data.toList.length := by
      apply Decidable.byContradiction; intro hn
      rw [List.drop_eq_nil_of_le (by omega)] at h; cases h
    have hb : s[i]! = b := by
      have h1 : s.data.toList[i]? = some b := by
        have := congrArg List.head? h
        rw [List.head?_drop] at this; simpa using this
      have h2 : i < s.size := by simpa using hlt
      rw [getElem!_pos s i h2]
      have h3 : s.data.toList[i]? = some (s.data[i]'h2) := by rw [List.getElem?_eq_getElem hlt]; simp
      exact Option.some.inj (h3.symm.trans h1)
    have hd : s.data.toList.drop (i + 1) = l := by
      have := congrArg List.tail h
      simpa using this
    rw [idxOf_cons, List.length_cons, List.range'_succ, List.find?_cons]
    by_cases hc : b.toNat = c
    · rw [if_pos hc]; simp [hb, hc]
    · rw [if_neg hc]
      simp only [hb, hc, decide_false]
      exact idxOf_is s c l (i + 1) hd
/-- IndexByteString, told at once. -/
noncomputable def idxS : List AV → AH → Option (AV × AH) := fun a h => match a with
  | [.str s, .int .u8 (.ofNat c)] => (match Nat.ble c 255 with | true => some (.int .i64 (idxOf c s.data.toList 0), h) | false => none)
  | _ => none
noncomputable def sumIdx (k : FuncId) : Sum := fun f => match Nat.beq f k with
  | true => some idxS
  | false => none
theorem idx_run {s : ByteArray} {c : Nat} (hc : c ≤ 255) (P : Program) (w : World) : (Extern.BytealgIndexByte.indexByte #[.string s, .int .u8 (.ofNat c)]).run P w = .ok (.int .i64 (idxOf c s.data.toList 0)) w := by
  have e1 : (fun i : Nat => s[i]! == (Int.ofNat c).toNat.toUInt8) = fun i => decide ((s[i]!).toNat = c) := by
    funext i
    have : (s[i]! == (Int.ofNat c).toNat.toUInt8) = decide (s[i]! = c.toUInt8) := rfl
    rw [this]
    congr 1
    rw [← UInt8.toNat_inj]
    have : (c.toUInt8).toNat = c := by
      show (UInt8.ofNat c).toNat = _
      rw [UInt8.toNat_ofNat']
      omega
    rw [this]
  have e2 := idxOf_is s c s.data.toList 0 rfl
  have e3 : s.data.toList.length = s.size := by simp
  rw [e3, ← List.range_eq_range'] at e2
  have e4 : (Extern.BytealgIndexByte.indexByte #[.string s, .int .u8 (.ofNat c)]).run P w = (match (List.range s.size).find? fun i => s[i]! == (Int.ofNat c).toNat.toUInt8 with
    | some i => (pure (goInt i) : Sem Value)
    | none => pure (goInt (-1))).run P w := rfl
  rw [e4, e1, ← e2]
  cases (List.range s.size).find? fun i => decide ((s[i]!).toNat = c) <;> rfl
theorem sumIdx_ok {P : Program} {k : FuncId} {fn : Func} (hf : P.funcs[k]? = some fn) (hname : (fn.name == "runtime.NumGoroutine") = false) (hb : fn.body.isNone = true) (hn : Extern.findNext fn = none) (he : Extern.find fn = some Extern.BytealgIndexByte.indexByte)
    (B : Nat → Prop) (w0 : World) : SumOk P B w0 (sumIdx k) := by
  intro f s hs args h v h' hv G w vals h1 h2
  unfold sumIdx at hs
  split at hs
  · rename_i hbq
    have hfk : f = k := Nat.eq_of_beq_eq_true hbq
    subst hfk
    simp only [Option.some.injEq] at hs; subst hs
    unfold idxS at hv
    split at hv
    · rename_i s c
      split at hv
      · rename_i hc
        simp only [Option.some.injEq, Prod.mk.injEq] at hv
        obtain ⟨rfl, rfl⟩ := hv
        simp only [VRs, VR] at h1
        obtain ⟨_, _, rfl, rfl, _, _, rfl, rfl, rfl⟩ := h1
        refine Or.inl ⟨.int .i64 (idxOf c s.data.toList 0), w, ?_, G, Gle.refl G, by simp [VR], h2⟩
        rw [run_callFunc_indexByte hf hname hb hn he]
        have := idx_run (s := s) (Nat.le_of_ble_eq_true hc) P w
        rw [this]; rfl
      · cases hv
    · cases hv
  · cases hs
/-- Summaries side by side. -/
def sumOr (S T : Sum) : Sum := fun f => match S f with
  | some s => some s
  | none => T f
theorem sumOr_ok {P : Program} {S T : Sum} {B : Nat → Prop} {w0 : World} (hS : SumOk P B w0 S) (hT : SumOk P B w0 T) : SumOk P B w0 (sumOr S T) := by
  intro f s hs
  unfold sumOr at hs
  split at hs
  · rename_i q hq
    simp only [Option.some.injEq] at hs; subst hs
    exact hS f _ hq
  · exact hT f s hs
/-- One function without arguments answers true: told at once. -/
def sumTrue (k : FuncId) : FuncId → Option (List AV → AH → Option (AV × AH)) := fun f => match Nat.beq f k with
  | true => some (fun a h => match a with | [] => some (.bool true, h) | _ => none)
  | false => none
theorem CallRes.mono {P : Program} {f : FuncId} {vals : Array Value} {w : World} {R R' : Value → World → Prop} (h : CallRes P f vals w R) (hr : ∀ u w', R u w' → R' u w') : CallRes P f vals w R' := by
  rcases h with ⟨u, w', h1, h2⟩ | ⟨h1, h2⟩
  · exact Or.inl ⟨u, w', h1, hr u w' h2⟩
  · refine Or.inr ⟨h1, h2.mono fun e w' he => ?_⟩
    cases e with
    | returned u => exact hr u w' he
    | panicked c => exact he.elim
    | outgrown => exact he.elim
theorem sumTrue_ok {P : Program} {S : FuncId → Option (List AV → AH → Option (AV × AH))} {F : FuncId → Option AF} (hS : ∀ B w0, SumOk P B w0 S) (hF : ∀ f fn, F f = some fn → cF P f = some fn) {k : FuncId} {n : Nat} (he : (aeval S F n k [] h0).map (·.1) = some (.bool true)) (B : Nat → Prop) (w0 : World) : SumOk P B w0 (sumTrue k) := by
  intro f s hs args h v h' hv G w vals h1 h2
  unfold sumTrue at hs
  split at hs
  · rename_i hb
    have hfk : f = k := Nat.eq_of_beq_eq_true hb
    subst hfk
    simp only [Option.some.injEq] at hs; subst hs
    cases args with
    | cons a r => cases hv
    | nil =>
      simp only [Option.some.injEq, Prod.mk.injEq] at hv
      obtain ⟨rfl, rfl⟩ := hv
      simp only [VRs] at h1; subst h1
      obtain ⟨⟨v0, h'⟩, e1, e2⟩ := Option.map_eq_some_iff.1 he
      simp only at e2; subst e2
      refine (eval_ok hS hF n (· < w.heap.size) w f [] h0 _ h' e1 noG w [] (by simp [VRs]) (WR_start w)).mono fun u w' hR => ?_
      obtain ⟨G', _, g2, g3⟩ := hR
      simp only [VR] at g2; subst g2
      exact ⟨G, Gle.refl G, by simp [VR], h2.later g3.below⟩
  · cases hs
end Go.Proofs.Ytadohhhjpbhhoaa.EvA
