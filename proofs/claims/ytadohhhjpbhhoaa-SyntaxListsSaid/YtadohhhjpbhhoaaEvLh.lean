/- Walks: closed calls, told at once. -/
import Derived.Test.YtadohhhjpbhhoaaEvLg
namespace Go.Proofs.Ytadohhhjpbhhoaa.EvA
open Go.RowKit
set_option linter.unusedVariables false
mutual
/-- A value's rows as rows that nobody writes to any more. -/
def frzF (h : AH) : Nat → AV → Option AV
  | 0, _ => none
  | n + 1, v => match v with
    | .bool b => some (.bool b)
    | .int k i => some (.int k i)
    | .str s => some (.str s)
    | .nilptr => some .nilptr
    | .nilrow => some .nilrow
    | .nilmap => some .nilmap
    | .nilfn => some .nilfn
    | .niliface => some .niliface
    | .row cs len s => match len with
      | 0 => some (.row [] 0 ⟨0, 0, 0, s.size⟩)
      | len + 1 => match s.fam with
        | 0 => match s.id with
          | 0 => (frzFs h n cs).map fun c => .row c (len + 1) ⟨0, 0, 0, s.size⟩
          | _ + 1 => none
        | _ + 1 => match h.ok s with
          | true => (frzFs h n cs).map fun c => .row c (len + 1) ⟨0, 0, 0, s.size⟩
          | false => none
    | .agg cs => (frzFs h n cs).map .agg
    | .tup cs => (frzFs h n cs).map .tup
    | _ => none
def frzFs (h : AH) : Nat → List AV → Option (List AV)
  | 0, _ => none
  | n + 1, l => match l with
    | [] => some []
    | a :: r => match frzF h n a, frzFs h n r with
      | some b, some s => some (b :: s)
      | _, _ => none
end
mutual
theorem frzF_ok {g h : AH} : ∀ (n : Nat) (v v' : AV), frzF h n v = some v' → Wk (K1 g h [] []) v v'
  | 0, v, v', e => by cases e
  | n + 1, v, v', e => by
    unfold frzF at e
    split at e
    · obtain rfl := Option.some.inj e; exact .atom rfl
    · obtain rfl := Option.some.inj e; exact .atom rfl
    · obtain rfl := Option.some.inj e; exact .atom rfl
    · obtain rfl := Option.some.inj e; exact .atom rfl
    · obtain rfl := Option.some.inj e; exact .atom rfl
    · obtain rfl := Option.some.inj e; exact .atom rfl
    · obtain rfl := Option.some.inj e; exact .atom rfl
    · obtain rfl := Option.some.inj e; exact .atom rfl
    · rename_i cs len s
      split at e
      · obtain rfl := Option.some.inj e; exact .emp rfl rfl (by simp)
      · split at e
        · rename_i hf
          split at e
          · rename_i hi
            obtain ⟨c, h1, rfl⟩ := Option.map_eq_some_iff.1 e
            exact .frz hf rfl ⟨hi, rfl⟩ rfl (fun h => by cases h) (frzFs_ok n cs c h1)
          · cases e
        · rename_i hf
          split at e
          · rename_i hok
            obtain ⟨c, h1, rfl⟩ := Option.map_eq_some_iff.1 e
            exact .own (by omega) hok rfl rfl rfl (frzFs_ok n cs c h1)
          · cases e
    · obtain ⟨c, h1, rfl⟩ := Option.map_eq_some_iff.1 e; exact .agg (frzFs_ok n _ c h1)
    · obtain ⟨c, h1, rfl⟩ := Option.map_eq_some_iff.1 e; exact .tup (frzFs_ok n _ c h1)
    · cases e
theorem frzFs_ok {g h : AH} : ∀ (n : Nat) (v v' : List AV), frzFs h n v = some v' → Wks (K1 g h [] []) v v'
  | 0, v, v', e => by cases e
  | n + 1, v, v', e => by
    unfold frzFs at e
    split at e
    · obtain rfl := Option.some.inj e; exact .nil
    · split at e
      · rename_i h1 h2
        obtain rfl := Option.some.inj e
        exact .cons (frzF_ok n _ _ h1) (frzFs_ok n _ _ h2)
      · cases e
end
/-- A closed call of one text. -/
theorem closed_shows {S : Sum} {F : FuncId → Option AF} {f : FuncId} {n m : Nat} {t : ByteArray} {v : AV} (he : ((aeval S F n f [.str t] h0).bind fun r => frzF r.2 m r.1) = some v) : Shows S F f (fun args h => match args with
    | [.str s] => if s.data.toList = t.data.toList then some (v, h) else none
    | _ => none) := by
  intro args h v1 h' hs
  dsimp only at hs
  split at hs
  · rename_i s
    split at hs
    · rename_i hst
      have hst : s = t := ByteArray.ext (Array.toList_inj.1 hst)
      subst hst
      simp only [Option.some.injEq, Prod.mk.injEq] at hs
      obtain ⟨rfl, rfl⟩ := hs
      obtain ⟨⟨u, H'⟩, h1, h2⟩ := Option.bind_eq_some_iff.1 he
      refine ⟨h0, H', [], [], [.str s], u, ?_, n, h1⟩
      refine ⟨fun j k i h => (by simp at h), fun j i h => (by simp at h), ⟨rfl, rfl, by decide⟩, fun j X h => (by cases h), .cons (.atom rfl) .nil, fun j k i h => (by simp at h), fun m j h => (by simp at h), rfl, rfl, rfl, rfl, rfl, fun i x' h => Or.inl ⟨fun j h => (by simp at h), h⟩, frzF_ok m u v h2⟩
    · cases hs
  · cases hs
/-- Summaries of one function, side by side. -/
def altS (s t : List AV → AH → Option (AV × AH)) : List AV → AH → Option (AV × AH) := fun a h => match s a h with
  | some r => some r
  | none => t a h
theorem Shows.alt {S : Sum} {F : FuncId → Option AF} {f : FuncId} {s t : List AV → AH → Option (AV × AH)} (h1 : Shows S F f s) (h2 : Shows S F f t) : Shows S F f (altS s t) := by
  intro args h v h' e
  unfold altS at e
  split at e
  · rename_i r hr
    obtain rfl := Option.some.inj e
    exact h1 args h _ _ hr
  · exact h2 args h _ _ e
/-! All that goes by itself, told once: 'cgo' runs through code, 'rgo' through one region, 'hgo' through one whose reads may stand elsewhere; what is left is what is to be shown. -/
theorem cgo {P R : Prop} (k : R) (h : R → P := by intro k; (repeat (first | (refine g_do rfl ?_; first | refine o_move (xt rfl) ?_ | refine o_move xc ?_ | refine o_move xf ?_ | refine o_faddr (xt rfl) ?_ | refine o_nil (xt rfl) ?_ | refine o_load (xt rfl) (by repeat (first | exact .here | refine .there ?_)) rfl ?_ | refine o_lens (xt rfl) ?_ | refine o_lenr (xt rfl) ?_ | refine o_lenn (xt rfl) ?_ | refine o_pick (b := true) (xt rfl) xc ?_ | refine o_pick (b := true) (xt rfl) (xt rfl) ?_ | refine o_pick (b := false) (xt rfl) xc ?_ | refine o_pick (b := false) (xt rfl) (xt rfl) ?_ | refine o_not (xt rfl) ?_ | refine o_extract (xt rfl) rfl ?_ | refine o_field (xt rfl) rfl ?_ | refine o_build .nil rfl ?_ | refine o_build (.cons xc .nil) rfl ?_ | refine o_build (.cons (xt rfl) .nil) rfl ?_ | refine o_build (.cons (xt rfl) (.cons (xt rfl) .nil)) rfl ?_ | refine o_build (.cons (xt rfl) (.cons (xt rfl) (.cons (xt rfl) .nil))) rfl ?_ | refine o_build (.cons (xt rfl) (.cons xc .nil)) rfl ?_) | refine g_if rfl ?_ | refine g_skip rfl rfl rfl ?_ | refine g_skipn rfl rfl ?_ | refine g_end ?_ | (refine g_do0 ?_; refine o_store (xt rfl) (xt rfl) (by first | exact .here | exact .there .here | exact .there (.there .here) | exact .there (.there (.there .here)) | exact .there (.there (.there (.there .here))) | exact .there (.there (.there (.there (.there .here)))) | exact .there (.there (.there (.there (.there (.there .here)))))) ⟨rfl, (Nat.le_of_ble_eq_true rfl)⟩ rfl rfl ?_) | refine w_rs ?_ | refine w_assoc ?_ | refine w_reg ?_ | refine w_cond (xt rfl) ?_ | refine w_skip ?_ | refine w_seq ?_ | refine w_ret ?_ | refine w_exit ?_)); exact k) : P := h k
theorem rgo {P R : Prop} (k : R) (h : R → P := by intro k; (repeat (first | (refine g_do rfl ?_; first | refine o_move (xt rfl) ?_ | refine o_move xc ?_ | refine o_move xf ?_ | refine o_faddr (xt rfl) ?_ | refine o_nil (xt rfl) ?_ | refine o_load (xt rfl) (by repeat (first | exact .here | refine .there ?_)) rfl ?_ | refine o_lens (xt rfl) ?_ | refine o_lenr (xt rfl) ?_ | refine o_lenn (xt rfl) ?_ | refine o_pick (b := true) (xt rfl) xc ?_ | refine o_pick (b := true) (xt rfl) (xt rfl) ?_ | refine o_pick (b := false) (xt rfl) xc ?_ | refine o_pick (b := false) (xt rfl) (xt rfl) ?_ | refine o_not (xt rfl) ?_ | refine o_extract (xt rfl) rfl ?_ | refine o_field (xt rfl) rfl ?_ | refine o_build .nil rfl ?_ | refine o_build (.cons xc .nil) rfl ?_ | refine o_build (.cons (xt rfl) .nil) rfl ?_ | refine o_build (.cons (xt rfl) (.cons (xt rfl) .nil)) rfl ?_ | refine o_build (.cons (xt rfl) (.cons (xt rfl) (.cons (xt rfl) .nil))) rfl ?_ | refine o_build (.cons (xt rfl) (.cons xc .nil)) rfl ?_) | refine g_if rfl ?_ | refine g_skip rfl rfl rfl ?_ | refine g_skipn rfl rfl ?_ | refine g_end ?_ | (refine g_do0 ?_; refine o_store (xt rfl) (xt rfl) (by first | exact .here | exact .there .here | exact .there (.there .here) | exact .there (.there (.there .here)) | exact .there (.there (.there (.there .here))) | exact .there (.there (.there (.there (.there .here)))) | exact .there (.there (.there (.there (.there (.there .here)))))) ⟨rfl, (Nat.le_of_ble_eq_true rfl)⟩ rfl rfl ?_))); exact k) : P := h k
theorem hgo {P R : Prop} (k : R) (h : R → P := by intro k; (repeat (first | (refine h_do rfl ?_; first | refine o_move (xt rfl) ?_ | refine o_move xc ?_ | refine o_move xf ?_ | refine o_faddr (xt rfl) ?_ | refine o_nil (xt rfl) ?_ | refine o_load (xt rfl) (by repeat (first | exact .here | refine .there ?_)) rfl ?_ | refine o_lens (xt rfl) ?_ | refine o_lenr (xt rfl) ?_ | refine o_lenn (xt rfl) ?_ | refine o_pick (b := true) (xt rfl) xc ?_ | refine o_pick (b := true) (xt rfl) (xt rfl) ?_ | refine o_pick (b := false) (xt rfl) xc ?_ | refine o_pick (b := false) (xt rfl) (xt rfl) ?_ | refine o_not (xt rfl) ?_ | refine o_extract (xt rfl) rfl ?_ | refine o_field (xt rfl) rfl ?_ | refine o_build .nil rfl ?_ | refine o_build (.cons xc .nil) rfl ?_ | refine o_build (.cons (xt rfl) .nil) rfl ?_ | refine o_build (.cons (xt rfl) (.cons (xt rfl) .nil)) rfl ?_ | refine o_build (.cons (xt rfl) (.cons (xt rfl) (.cons (xt rfl) .nil))) rfl ?_ | refine o_build (.cons (xt rfl) (.cons xc .nil)) rfl ?_) | refine h_if rfl ?_ | refine h_skip rfl rfl rfl ?_)); exact k) : P := h k
end Go.Proofs.Ytadohhhjpbhhoaa.EvA
