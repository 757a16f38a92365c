/- An evaluator of the program's code over abstract values and an abstract heap: a law's arguments. -/
import Derived.Test.YtadohhhjpbhhoaaEvLf
import Derived.WideShapes
namespace Go.Proofs.Ytadohhhjpbhhoaa.EvA
open Go.RowKit
set_option linter.unusedVariables false
section
variable {H : Type} {enc : TypeId × Value → H} {P : Program} {w : World} {base : Nat} {spare : Nat → Bool} {held : Bool}
theorem VRs_mk {G : Gh} {a : AV} {v : Value} {r : List AV} {l : List Value} (h : VR G a v) (k : VRs G r l) : VRs G (a :: r) (v :: l) := by
  simp only [VRs]; exact ⟨v, l, rfl, h, k⟩
theorem arg_row {d : Nat} {t e : TypeId} (ht : P.underlying t = some (.slice e)) {r : Reach} {b0 : Nat} {v : Value} (hv : Value.okWide P w r b0 t v) {x : DataW H} {ps : List MemPlace} (h : DataW.Trod enc P w base spare held t v x ps) (hf : fitT P d t = true) :
    ∃ a, VR (lieG w) a v ∧ Sh P d t [a] := by
  obtain ⟨ad, len, cap, rfl⟩ := Go.WideShapes.okWide_slice ht hv
  obtain ⟨fuel, h⟩ := h
  obtain ⟨as, h1, h2⟩ := open_cells d fuel t _ _ h hf
  have h1 : VRs (lieG w) as [.slice ad len cap] := h1
  cases as with
  | nil => simp [VRs] at h1
  | cons a r =>
    simp only [VRs] at h1
    obtain ⟨u, m, e1, k1, k2⟩ := h1
    obtain ⟨rfl, rfl⟩ := List.cons.inj e1
    cases r with
    | nil => exact ⟨a, k1, h2⟩
    | cons b s => simp [VRs] at k2
theorem arg_agg {d : Nat} {t : TypeId} {fs : Array Field} (ht : P.underlying t = some (.struct fs)) {r : Reach} {b0 : Nat} {v : Value} (hv : Value.okWide P w r b0 t v) {x : DataW H} {ps : List MemPlace} (h : DataW.Trod enc P w base spare held t v x ps) (hf : fitT P d t = true) :
    ∃ as, VR (lieG w) (.agg as) v ∧ Sh P d t as := by
  simp only [Value.okWide, ht] at hv
  obtain ⟨⟨cs⟩, rfl, _⟩ := hv
  obtain ⟨fuel, h⟩ := h
  obtain ⟨as, h1, h2⟩ := open_cells d fuel t _ _ h hf
  exact ⟨as, by simp only [VR]; exact ⟨cs, rfl, h1⟩, h2⟩
end
/-- A law that was walked to true. -/
theorem ev_true {S : Sum} {F : FuncId → Option AF} {f : FuncId} {args : List AV} (h : Ev S F f args [] fun v _ => v = .bool true) : ∃ n, (aeval S F n f args h0).map (·.1) = some (.bool true) := by
  obtain ⟨v, h', fs', _, rfl, N, h5⟩ := h h0 ⟨fun x hx => (by cases hx), List.nodup_nil, by decide, fun f x hx => (by cases hx), fun f => List.Pairwise.nil⟩
  exact ⟨N, by rw [h5 N (Nat.le_refl _)]; rfl⟩
end Go.Proofs.Ytadohhhjpbhhoaa.EvA
