/- Walks of layer 14: a world begun; what is cut. -/
import Derived.Test.YtjegfogfeeedhaaWb
namespace Go.Proofs.Ytjegfogfeeedhaa.EvA
attribute [local irreducible] oMove oPick oBox oBuild oRow oRowZ oLoad oStore oNil oArith oEq oEqS oShr oShl oNot oNeg oConv oFn oMfn oMin oMax oCutstr oCutrow oFaddr oField oIaddr oIaddrA oIdx oExtract oLenS oLenR oLenM oAppend oCall oCallv oMap oLookup oSet oDelete kDo kDo0 kIf kEnd kReg kSeq kCond kBlock kLoop kSkip kExit kRet xT xC xF kFl kIp sDo sDo0 sIf gVal
set_option linter.unusedVariables false
variable {fs fs' : List Fact}
theorem new0_ev {v0 v1 o r : AV} {fuel : Int} {ocs rcs : List AV} {on rn : Nat} (ho : RN fs 2 o ocs on) (hr : RN fs 1 r rcs rn) (h1 : on ≤ 1000000) (h2 : rn ≤ 1000000) {K : KK}
    (h : ∀ i t o' r' fs', Grows fs fs' → scalar t = true → RV fs' 2 o' ocs on → RV fs' 1 r' rcs rn → K (.ptr i 0) (.blk i (.cells [t, o', r', .int .i64 (if (100000 : Int) < (if (0 : Int) > fuel then 0 else fuel) then 100000 else (if (0 : Int) > fuel then 0 else fuel))]) :: fs')) : Ev sW ftab 6 [.agg [v0, v1, .nilrow, o, r, .int .i64 fuel]] fs K := by
  refine ev_fn (nt := 18) (kb := kb6) (kr := kr6) rfl rfl (Nat.le_of_ble_eq_true rfl) ?_
  refine w_rs (g_do rfl (o_box (v := .agg [v0, v1, .nilrow, o, r, .int .i64 fuel]) (xt rfl) rfl fun ib => ?_))
  repeat (first | (refine g_do rfl ?_; first | refine o_move (xt rfl) ?_ | refine o_move xc ?_ | refine o_faddr (xt rfl) ?_ | refine o_nil (xt rfl) ?_ | refine o_load (xt rfl) (by first | exact .here | exact .there .here | exact .there (.there .here) | exact .there (.there (.there .here)) | exact .there (.there (.there (.there .here))) | exact .there (.there (.there (.there (.there .here)))) | exact .there (.there (.there (.there (.there (.there .here)))))) rfl ?_ | refine o_lens (xt rfl) ?_ | refine o_lenr (xt rfl) ?_ | refine o_lenn (xt rfl) ?_ | refine o_pick (b := true) (xt rfl) xc ?_ | refine o_pick (b := true) (xt rfl) (xt rfl) ?_ | refine o_pick (b := false) (xt rfl) xc ?_ | refine o_pick (b := false) (xt rfl) (xt rfl) ?_ | refine o_not (xt rfl) ?_ | refine o_extract (xt rfl) rfl ?_ | refine o_field (xt rfl) rfl ?_ | refine o_box xc rfl fun _ => ?_ | refine o_box (xt rfl) rfl fun _ => ?_ | refine o_build .nil rfl ?_) | refine g_if rfl ?_ | refine g_skip rfl rfl rfl ?_ | refine g_skipn rfl rfl ?_ | refine g_end ?_ | (refine g_do0 ?_; refine o_store (xt rfl) (xt rfl) (by first | exact .here | exact .there .here | exact .there (.there .here) | exact .there (.there (.there .here)) | exact .there (.there (.there (.there .here))) | exact .there (.there (.there (.there (.there .here))))) ⟨rfl, (Nat.le_of_ble_eq_true rfl)⟩ rfl rfl ?_) | refine w_rs ?_ | refine w_assoc ?_ | refine w_reg ?_ | refine w_cond (xt rfl) ?_ | refine w_skip ?_ | refine w_seq ?_ | refine w_ret ?_ | refine w_exit ?_)
  refine g_fl ?_
  refine h_do rfl (o_faddr (xt rfl) ?_)
  refine h_do rfl (o_load (xt rfl) .here rfl ?_)
  refine h_do rfl (o_call (.cons (xt rfl) .nil) (tnew0_ev fun it im => ?_))
  refine h_do rfl (o_faddr (xt rfl) ?_)
  refine h_do rfl (o_load (xt rfl) (.there (.there .here)) rfl ?_)
  refine h_do rfl (o_call (.cons (xt rfl) .nil) (clone2_ev ho.cons.cons.cons h1 fun o' fs1 g1 ho' => ?_))
  refine h_do rfl (o_faddr (xt rfl) ?_)
  refine h_do rfl (o_load (xt rfl) (g1 _ (.there (.there .here))) rfl ?_)
  refine h_do rfl (o_call (.cons (xt rfl) .nil) (clone1_ev (hr.cons.cons.cons.grows g1) h2 fun r' fs2 g2 hr' => ?_))
  have hb : ∀ x, afill [.nilptr, .nilrow, .nilrow, .int .i64 0] [(0, 1, .ptr it 0), (1, 1, o'), (2, 1, r'), (3, 1, .int .i64 x)] = some [.ptr it 0, o', r', .int .i64 x] := fun x => by cases ho' <;> cases hr' <;> rfl
  refine h_do rfl (o_faddr (xt rfl) ?_)
  refine h_do rfl (o_load (xt rfl) (g2 _ (g1 _ (.there (.there .here)))) rfl ?_)
  refine h_do rfl (o_max (xt rfl) xc ?_)
  refine h_do rfl (o_min (xt rfl) xc ?_)
  refine h_do rfl (o_build (.cons (xt rfl) (.cons (xt rfl) (.cons (xt rfl) (.cons (xt rfl) .nil)))) (hb _) ?_)
  refine h_do rfl (o_box (xt rfl) rfl fun iw => ?_)
  refine h_do rfl (o_move (xt rfl) ?_)
  refine h_end ?_
  refine ⟨.cons rfl (.cons rfl (o_load (xt rfl) .here rfl rfl) (.cons rfl (o_load (xt rfl) (.there (.there .here)) rfl rfl) (.cons rfl (o_load (xt rfl) (g1 _ (.there (.there .here))) rfl rfl) .nil))) (.cons rfl (.cons rfl (o_load (xt rfl) .here rfl rfl) (.cons rfl (o_load (xt rfl) (.there (.there .here)) rfl rfl) .nil)) (.cons rfl (.cons rfl (o_load (xt rfl) .here rfl rfl) .nil) .nil)), _, rfl, ?_⟩
  repeat (first | (refine g_do rfl ?_; first | refine o_move (xt rfl) ?_ | refine o_move xc ?_ | refine o_faddr (xt rfl) ?_ | refine o_nil (xt rfl) ?_ | refine o_load (xt rfl) (by first | exact .here | exact .there .here | exact .there (.there .here) | exact .there (.there (.there .here)) | exact .there (.there (.there (.there .here))) | exact .there (.there (.there (.there (.there .here)))) | exact .there (.there (.there (.there (.there (.there .here)))))) rfl ?_ | refine o_lens (xt rfl) ?_ | refine o_lenr (xt rfl) ?_ | refine o_lenn (xt rfl) ?_ | refine o_pick (b := true) (xt rfl) xc ?_ | refine o_pick (b := true) (xt rfl) (xt rfl) ?_ | refine o_pick (b := false) (xt rfl) xc ?_ | refine o_pick (b := false) (xt rfl) (xt rfl) ?_ | refine o_not (xt rfl) ?_ | refine o_extract (xt rfl) rfl ?_ | refine o_field (xt rfl) rfl ?_ | refine o_box xc rfl fun _ => ?_ | refine o_box (xt rfl) rfl fun _ => ?_ | refine o_build .nil rfl ?_) | refine g_if rfl ?_ | refine g_skip rfl rfl rfl ?_ | refine g_skipn rfl rfl ?_ | refine g_end ?_ | (refine g_do0 ?_; refine o_store (xt rfl) (xt rfl) (by first | exact .here | exact .there .here | exact .there (.there .here) | exact .there (.there (.there .here)) | exact .there (.there (.there (.there .here))) | exact .there (.there (.there (.there (.there .here))))) ⟨rfl, (Nat.le_of_ble_eq_true rfl)⟩ rfl rfl ?_) | refine w_rs ?_ | refine w_assoc ?_ | refine w_reg ?_ | refine w_cond (xt rfl) ?_ | refine w_skip ?_ | refine w_seq ?_ | refine w_ret ?_ | refine w_exit ?_)
  exact ⟨trivial, _, _, .one (.tmp rfl), .refl _, h iw _ o' r' fs2 (fun x hx => g2 _ (g1 _ (.there (.there (.there hx))))) rfl (ho'.grows g2) hr'⟩
/-! What is cut. -/
theorem ext_list (s : ByteArray) (a b : Nat) : (s.extract a b).data.toList = (s.data.toList.drop a).take (b - a) := by
  rw [ByteArray.data_extract, Array.toList_extract, List.extract]
theorem ba_ext {a b : ByteArray} (h : a.data.toList = b.data.toList) : a = b := ByteArray.ext (Array.toList_inj.1 h)
theorem size_list (s : ByteArray) : s.data.toList.length = s.size := by simp
/-- A text up to a place at which one of some bytes stands. -/
def Upto (t : ByteArray) (l : List UInt8) (v : ByteArray) : Prop := ∃ n, n ≤ t.size ∧ v.data.toList = t.data.toList.take n ∧ (n < t.size → ∃ b ∈ l, t.data.toList[n]? = some b)
theorem cut1_upto {t v : ByteArray} {l : List UInt8} (h : Upto t l v) (b : UInt8) : Upto t (l ++ [b]) (cut1 v b) := by
  obtain ⟨n, h1, h2, h3⟩ := h
  have hl := size_list t
  unfold cut1
  split
  · rename_i hi
    rcases idxOf_spec b.toNat v.data.toList 0 with ⟨k1, _⟩ | ⟨k, k1, k2, k3, c, k4, k5⟩
    · rw [k1] at hi; omega
    · rw [k1]
      have hk : k < n := by rw [h2, List.length_take] at k2; omega
      refine ⟨k, by omega, ?_, fun _ => ⟨b, by simp, ?_⟩⟩
      · rw [ext_list, h2]
        simp only [Nat.zero_add, List.drop_zero]
        rw [show (((k : Nat) : Int)).toNat - 0 = k by omega, List.take_take, Nat.min_eq_left (by omega)]
      · rw [h2, List.getElem?_take, if_pos hk] at k4
        rw [k4, UInt8.toNat_inj.1 k5]
  · exact ⟨n, h1, h2, fun hn => by obtain ⟨c, c1, c2⟩ := h3 hn; exact ⟨c, by simp [c1], c2⟩⟩
theorem fold_upto {t : ByteArray} : ∀ (m l : List UInt8) (v : ByteArray), Upto t l v → Upto t (l ++ m) (m.foldl cut1 v)
  | [], l, v, h => by simpa using h
  | b :: m, l, v, h => by
    rw [List.foldl_cons]
    have := fold_upto m (l ++ [b]) (cut1 v b) (cut1_upto h b)
    simpa using this
/-- What is told of a text that was cut. -/
structure CutOk (t : ByteArray) (l : List UInt8) (u : ByteArray) : Prop where
  short : u.size ≤ 1000
  le : u.size ≤ t.size
  pre : t.extract 0 u.size = u
  stop : u.size < min t.size 1000 → ∃ b ∈ l, t.data.toList[u.size]? = some b
theorem cutW_ok (t by_ : ByteArray) : CutOk t by_.data.toList (cutW t by_) := by
  obtain ⟨n, h1, h2, h3⟩ := fold_upto (t := t) by_.data.toList [] t ⟨t.size, Nat.le_refl _, by rw [← size_list, List.take_length], fun h => absurd h (Nat.lt_irrefl _)⟩
  have hl := size_list t
  have hv : (by_.data.toList.foldl cut1 t).size = n := by rw [← size_list, h2, List.length_take]; omega
  have hu : (cutW t by_).data.toList = t.data.toList.take (min n 1000) := by
    unfold cutW
    rw [ext_list, hv, h2, List.drop_zero, Nat.sub_zero, List.take_take]
    congr 1; omega
  have hs : (cutW t by_).size = min n 1000 := by rw [← size_list, hu, List.length_take]; omega
  refine ⟨by omega, by omega, ba_ext ?_, fun hlt => ?_⟩
  · rw [ext_list, hu, hs, List.drop_zero, Nat.sub_zero]
  · have : min n 1000 = n := by omega
    obtain ⟨b, b1, b2⟩ := h3 (by omega)
    exact ⟨b, by simpa using b1, by rw [hs, this]; exact b2⟩
end Go.Proofs.Ytjegfogfeeedhaa.EvA
