/- A row of texts, joined: told at once. -/
import Derived.Test.YtfmhfepcohbbmaaEvSo
import Derived.Lib.Join
namespace Go.Proofs.Ytfmhfepcohbbmaa.EvA
open Go.RowKit
set_option linter.unusedVariables false
set_option linter.unusedSimpArgs false
/-- What the library's contract says of 'strings.Join'. -/
structure Joins (P : Program) (f : FuncId) : Prop where
  many : ∀ (bk o c : Nat) (xs : List ByteArray) (sep : ByteArray) (w : World), (∀ (j : Nat) x, xs[j]? = some x → w.cell? ⟨bk, o + j, none⟩ = some (.string x)) → bk < w.heap.size → xs.length ≤ 140737488355328 → xs.length ≤ c → (Lib.join (xs.map (·.data.toList)) sep.data.toList).length ≤ 140737488355328 →
    Calls P f #[.slice (some ⟨bk, o, none⟩) xs.length c, .string sep] w fun e w' => e = .returned (.string ⟨(Lib.join (xs.map (·.data.toList)) sep.data.toList).toArray⟩) ∧ Below w.heap.size w w'
  none : ∀ (a : Option Addr) (c : Nat) (sep : ByteArray) (w : World), Calls P f #[.slice a 0 c, .string sep] w fun e w' => e = .returned (.string ⟨#[]⟩) ∧ w' = w
def strsOf : List AV → Option (List ByteArray)
  | [] => some []
  | .str s :: r => (strsOf r).map (s :: ·)
  | _ :: _ => none
theorem strsOf_eq : ∀ {cs : List AV} {xs : List ByteArray}, strsOf cs = some xs → cs = xs.map .str
  | [], xs, h => by simp only [strsOf, Option.some.injEq] at h; subst h; rfl
  | a :: r, xs, h => by
    unfold strsOf at h
    split at h
    · rename_i e; cases e
    · rename_i t q e
      obtain ⟨ys, hk, rfl⟩ := Option.map_eq_some_iff.1 h
      simp only [List.cons.injEq] at e
      obtain ⟨rfl, rfl⟩ := e
      rw [List.map_cons, ← strsOf_eq hk]
    · cases h
theorem strsOf_map (xs : List ByteArray) : strsOf (xs.map .str) = some xs := by
  induction xs with
  | nil => rfl
  | cons x xs ih => show (strsOf (xs.map AV.str)).map (x :: ·) = _; rw [ih]; rfl
def joinB (xs : List ByteArray) (sep : ByteArray) : List UInt8 := Lib.join (xs.map (·.data.toList)) sep.data.toList
def joinS : List AV → AH → Option (AV × AH) := fun args h => match args with
  | [.row cs len s, .str sep] => match h.ok s with
    | true => match strsOf cs with
      | some xs => match Nat.beq s.size 1 && Nat.ble len 1000000 && Nat.ble (joinB xs sep).length 1000000000 with
        | true => some (.str ⟨(joinB xs sep).toArray⟩, h)
        | false => none
      | none => none
    | false => none
  | [.nilrow, .str sep] => some (.str ⟨#[]⟩, h)
  | _ => none
theorem join_ok {P : Program} {f : FuncId} (hC : Joins P f) (he : ∀ vals w, (callFunc f vals).run P w = .ok (.enter f vals) w) (B : Nat → Prop) (w0 : World) : SumOk P B w0 (sumAt f joinS) := by
  intro g s hs args h v h' hv G w vals h1 h2
  unfold sumAt at hs
  split at hs
  case h_2 => cases hs
  rename_i hgf
  have hgf : g = f := Nat.eq_of_beq_eq_true hgf
  subst hgf
  simp only [Option.some.injEq] at hs; subst hs
  have nocase : ∀ (a : Option Addr) (c : Nat) (sep : ByteArray), (CallRes P g ⟨[.slice a 0 c, .string sep]⟩ w fun u w' => ∃ G', Gle G G' ∧ VR G' (.str ⟨#[]⟩) u ∧ WR B w0 G' h w') := fun a c sep => by
    refine Or.inr ⟨he _ _, (hC.none a c sep w).mono ?_⟩
    rintro _ w' ⟨rfl, rfl⟩
    exact ⟨G, Gle.refl G, by simp only [VR], h2⟩
  unfold joinS at hv
  split at hv
  · rename_i cs len sr sep
    split at hv
    case h_2 => cases hv
    rename_i hok
    split at hv
    case h_2 => cases hv
    rename_i xs hxs
    split at hv
    case h_2 => cases hv
    rename_i hc
    simp only [Bool.and_eq_true] at hc
    obtain ⟨⟨hz, hlen⟩, hj⟩ := hc
    have hz : sr.size = 1 := Nat.eq_of_beq_eq_true hz
    have hlen : len ≤ 1000000 := Nat.le_of_ble_eq_true hlen
    have hj : (joinB xs sep).length ≤ 1000000000 := Nat.le_of_ble_eq_true hj
    simp only [Option.some.injEq, Prod.mk.injEq] at hv
    obtain ⟨rfl, rfl⟩ := hv
    have hcs := strsOf_eq hxs
    subst hcs
    simp only [VRs] at h1
    obtain ⟨v1, l1, rfl, hr, v2, l2, rfl, hs2, rfl⟩ := h1
    simp only [VR] at hs2
    subst hs2
    simp only [VR] at hr
    obtain ⟨q1, q2, hcase⟩ := hr
    rw [List.length_map, hz, Nat.mul_one] at q1
    have hnil : len = 0 → (⟨(joinB xs sep).toArray⟩ : ByteArray) = ⟨#[]⟩ := fun h0 => by
      have : xs = [] := List.eq_nil_of_length_eq_zero (by omega)
      subst this
      simp [joinB, Lib.join]
    rcases hcase with ⟨_, h0, a, cap, rfl, _⟩ | ⟨r, p, a, cap, hd, rfl, k1, k2, k3, k4, k5, k6⟩
    · rw [hnil h0]; exact nocase a cap sep
    · rcases k6 with h0 | ⟨rfl, _⟩
      · have h0 : len = 0 := by omega
        rw [hnil h0]
        rw [h0]
        exact nocase _ _ sep
      · obtain ⟨m1, m2, c, e, f, m3, m4, m5⟩ := h2.cells hd hok
        have hcells : ∀ (j : Nat) x, xs[j]? = some x → w.cell? ⟨r.b, p - r.base + j, none⟩ = some (.string x) := fun j x hx => by
          obtain ⟨u, hu, hvr⟩ := VRs_get k5 (i := j) (x := .str x) (by rw [List.getElem?_map, hx]; rfl)
          simp only [VR] at hvr
          subst hvr
          rw [List.getElem?_take] at hu
          split at hu
          · rw [List.getElem?_drop] at hu
            have := m5 _ _ hu
            rw [show r.org - r.base + (p - r.org + j) = p - r.base + j by omega] at this
            simp [World.cell?, m3, this]
          · cases hu
        have hC2 := hC.many r.b (p - r.base) cap xs sep w hcells m1 (by omega) (by omega) (by unfold joinB at hj; omega)
        rw [q1] at hC2
        refine Or.inr ⟨he _ _, hC2.mono ?_⟩
        rintro _ w' ⟨rfl, hb⟩
        exact ⟨G, Gle.refl G, by simp only [VR]; rfl, h2.later ⟨hb.os, hb.tape, hb.output, hb.size, fun k hk => hb.block k hk⟩⟩
  · simp only [Option.some.injEq, Prod.mk.injEq] at hv
    obtain ⟨rfl, rfl⟩ := hv
    simp only [VRs, VR] at h1
    obtain ⟨v1, l1, rfl, rfl, v2, l2, rfl, rfl, rfl⟩ := h1
    exact nocase none 0 _
  · cases hv
end Go.Proofs.Ytfmhfepcohbbmaa.EvA
