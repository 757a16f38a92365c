/- Walks of layer 8: what is read of closed texts; numbers there and back. -/
import Derived.Test.YtbbgpbgnbgiaiaaWg
namespace Go.Proofs.Ytbbgpbgnbgiaiaa.EvA
attribute [local irreducible] oMove oPick oBox oBuild oRow oLoad oStore oNil oArith oEq oEqS oShr oShl oNot oNeg oConv oFn oMfn oMin oMax oCutstr oCutrow oFaddr oField oIaddr oIaddrA oIdx oExtract oLenS oLenR oLenM oAppend oCall oCallv oMap oLookup oSet oDelete kDo kDo0 kIf kEnd kReg kSeq kCond kBlock kLoop kSkip kExit kRet xT xC xF kFl kIp sDo sDo0 sIf gVal
set_option linter.unusedVariables false
set_option maxHeartbeats 4000000
def parsed (l : List Stp) : AV := .tup [rowP l, .int .i64 0, .int .i64 0]
def pOne (t : ByteArray) (v : AV) : List AV → AH → Option (AV × AH) := fun args h => match args with
  | [.str s] => if s.data.toList = t.data.toList then some (v, h) else none
  | _ => none
def pAll : List (ByteArray × List Stp) → List AV → AH → Option (AV × AH)
  | [] => fun _ _ => none
  | x :: r => altS (pOne x.1 (parsed x.2)) (pAll r)
theorem pAll_hit {t : ByteArray} {l : List Stp} {h : AH} : ∀ {tb : List (ByteArray × List Stp)}, (tb.find? (fun x => decide (t.data.toList = x.1.data.toList))).map (·.2) = some l → pAll tb [.str t] h = some (parsed l, h)
  | [], e => by cases e
  | x :: r, e => by
    show altS (pOne x.1 (parsed x.2)) (pAll r) [.str t] h = _
    unfold altS pOne
    by_cases hx : t.data.toList = x.1.data.toList
    · simp only [List.find?_cons, decide_eq_true hx, Option.map_some, Option.some.injEq] at e
      simp only [if_pos hx, e]
    · simp only [List.find?_cons, decide_eq_false hx] at e
      simp only [if_neg hx]
      exact pAll_hit e
theorem pAll_shows {S : Sum} {F : FuncId → Option AF} {f : FuncId} : ∀ {tb : List (ByteArray × List Stp)}, (∀ x ∈ tb, Shows S F f (pOne x.1 (parsed x.2))) → Shows S F f (pAll tb)
  | [], _ => fun args h v h' e => by cases e
  | x :: r, hs => (hs x (List.mem_cons_self ..)).alt (pAll_shows fun y hy => hs y (List.mem_cons_of_mem _ hy))
def tx0 : ByteArray := ⟨#[97, 43, 48]⟩
def op0 : List Stp := [.name ⟨#[97]⟩, .num 0, .both .add]
theorem parse0 : ((aeval noS ftab 200 9 [.str tx0] h0).bind fun r => frzF r.2 60 r.1) = some (parsed op0) := by kernel_rfl
def tx1 : ByteArray := ⟨#[55, 47, 97]⟩
def op1 : List Stp := [.num 7, .name ⟨#[97]⟩, .both .div]
theorem parse1 : ((aeval noS ftab 200 9 [.str tx1] h0).bind fun r => frzF r.2 60 r.1) = some (parsed op1) := by kernel_rfl
def tx2 : ByteArray := ⟨#[97, 43, 98]⟩
def op2 : List Stp := [.name ⟨#[97]⟩, .name ⟨#[98]⟩, .both .add]
theorem parse2 : ((aeval noS ftab 200 9 [.str tx2] h0).bind fun r => frzF r.2 60 r.1) = some (parsed op2) := by kernel_rfl
def tx3 : ByteArray := ⟨#[97, 42, 98]⟩
def op3 : List Stp := [.name ⟨#[97]⟩, .name ⟨#[98]⟩, .both .mul]
theorem parse3 : ((aeval noS ftab 200 9 [.str tx3] h0).bind fun r => frzF r.2 60 r.1) = some (parsed op3) := by kernel_rfl
def tx4 : ByteArray := ⟨#[97, 45, 98]⟩
def op4 : List Stp := [.name ⟨#[97]⟩, .name ⟨#[98]⟩, .both .sub]
theorem parse4 : ((aeval noS ftab 200 9 [.str tx4] h0).bind fun r => frzF r.2 60 r.1) = some (parsed op4) := by kernel_rfl
def tx5 : ByteArray := ⟨#[40, 97, 42, 52, 41, 42, 40, 98, 42, 52, 41]⟩
def op5 : List Stp := [.name ⟨#[97]⟩, .num 4, .both .mul, .name ⟨#[98]⟩, .num 4, .both .mul, .both .mul]
theorem parse5 : ((aeval noS ftab 200 9 [.str tx5] h0).bind fun r => frzF r.2 60 r.1) = some (parsed op5) := by kernel_rfl
def tx6 : ByteArray := ⟨#[40, 48, 45, 52, 54, 49, 49, 54, 56, 54, 48, 49, 56, 52, 50, 55, 51, 56, 55, 57, 48, 52, 45, 52, 54, 49, 49, 54, 56, 54, 48, 49, 56, 52, 50, 55, 51, 56, 55, 57, 48, 52, 41, 47, 40, 48, 45, 49, 41]⟩
def op6 : List Stp := [.num 0, .num 4611686018427387904, .both .sub, .num 4611686018427387904, .both .sub, .num 0, .num 1, .both .sub, .both .div]
theorem parse6 : ((aeval noS ftab 200 9 [.str tx6] h0).bind fun r => frzF r.2 60 r.1) = some (parsed op6) := by kernel_rfl
def tx7 : ByteArray := ⟨#[40, 48, 45, 52, 54, 49, 49, 54, 56, 54, 48, 49, 56, 52, 50, 55, 51, 56, 55, 57, 48, 52, 42, 50, 41, 37, 40, 48, 45, 49, 41]⟩
def op7 : List Stp := [.num 0, .num 4611686018427387904, .num 2, .both .mul, .both .sub, .num 0, .num 1, .both .sub, .both .rem]
theorem parse7 : ((aeval noS ftab 200 9 [.str tx7] h0).bind fun r => frzF r.2 60 r.1) = some (parsed op7) := by kernel_rfl
def tab : List (ByteArray × List Stp) := [(tx0, op0), (tx1, op1), (tx2, op2), (tx3, op3), (tx4, op4), (tx5, op5), (tx6, op6), (tx7, op7)]
theorem tab_shows : Shows noS ftab 9 (pAll tab) := by
  refine pAll_shows fun x hx => ?_
  simp only [tab, List.mem_cons, List.not_mem_nil, or_false] at hx
  rcases hx with rfl | rfl | rfl | rfl | rfl | rfl | rfl | rfl
  · exact closed_shows parse0
  · exact closed_shows parse1
  · exact closed_shows parse2
  · exact closed_shows parse3
  · exact closed_shows parse4
  · exact closed_shows parse5
  · exact closed_shows parse6
  · exact closed_shows parse7
noncomputable abbrev sW : Sum := sumOr (sumTrue 13) (sumOne 9 (pAll tab))
theorem sW_ok (B : Nat → Prop) (w0 : World) : SumOk Try.prog B w0 sW := sumOr_ok (sumTrue_ok (fun _ _ => noS_ok) ftab_ok awake0 B w0) (sumOne_ok (fun _ _ => noS_ok) ftab_ok tab_shows B w0)
theorem sW_no : NoS sW := ⟨rfl, rfl, rfl, rfl, rfl, rfl, rfl, rfl, rfl, rfl⟩
variable {fs fs' : List Fact}
theorem awake_ev {K : KK} (h : K (.bool true) fs) : Ev sW ftab 13 [] fs K := ev_sum (s := fun a h => match a with | [] => some (.bool true, h) | _ => none) rfl fun h0 h2 => ⟨_, h0, fs, h2, h, rfl⟩
theorem parse_ev {t : ByteArray} {l : List Stp} (ht : (tab.find? (fun x => decide (t.data.toList = x.1.data.toList))).map (·.2) = some l) {K : KK} (h : K (parsed l) fs) : Ev sW ftab 9 [.str t] fs K := ev_sum (s := pAll tab) rfl fun h0 h2 => ⟨_, h0, fs, h2, h, pAll_hit ht⟩
/-! There and back. -/
theorem numL_app : ∀ (l : List UInt8) (a : Nat) (r : List UInt8), numL (l ++ r) a = (numL l a).bind fun n => numL r n
  | [], a, r => rfl
  | b :: l, a, r => by
    simp only [List.cons_append, numL]
    split
    · rfl
    · split
      · rfl
      · exact numL_app l _ r
theorem digit_nat {d : Nat} (h : d < 10) : (UInt8.ofNat (48 + d)).toNat = 48 + d := by
  rw [UInt8.toNat_ofNat']
  omega
theorem numL_digs : ∀ (m : Nat), m ≤ 4611686018427387904 → numL (digs m) 0 = some m := by
  intro m
  induction m using Nat.strongRecOn with
  | _ m ih =>
    intro hm
    by_cases h : 9 < m
    · rw [digs_big h, numL_app, ih (m / 10) (by omega) (by omega)]
      show numL [_] (m / 10) = _
      simp only [numL]
      rw [digit_nat (by omega), if_neg (by omega), if_neg (by omega)]
      congr 1; omega
    · rw [digs_small h]
      simp only [numL]
      rw [digit_nat (by omega), if_neg (by omega), if_neg (by omega)]
      congr 1; omega
theorem digs_head : ∀ (m : Nat), ∃ d r, digs m = UInt8.ofNat (48 + d) :: r ∧ d < 10 := by
  intro m
  induction m using Nat.strongRecOn with
  | _ m ih =>
    by_cases h : 9 < m
    · obtain ⟨d, r, h1, h2⟩ := ih (m / 10) (by omega)
      rw [digs_big h, h1]
      exact ⟨d, _, rfl, h2⟩
    · rw [digs_small h]
      exact ⟨m, [], rfl, by omega⟩
theorem numM_digs {m : Nat} (hm : m ≤ 4611686018427387904) : numM (mkT (digs m)) = (m, true) := by
  obtain ⟨d, r, h1, _⟩ := digs_head m
  have h0 : ¬ (mkT (digs m)).size = 0 := by rw [mkT_size, h1]; simp
  unfold numM
  rw [if_neg h0]
  show (match numL (digs m) 0 with | some n => (n, true) | none => (0, false)) = _
  rw [numL_digs m hm]
theorem val_digits {n : Int} (hn : n.natAbs ≤ 4611686018427387904) : valM (mkT (digitsL n)) = (n, 0) := by
  obtain ⟨d, r, h1, h2⟩ := digs_head n.natAbs
  have hne : UInt8.ofNat (48 + d) ≠ 45 := fun e => by
    have := congrArg UInt8.toNat e
    rw [digit_nat h2] at this
    have : 48 + d = 45 := this
    omega
  by_cases hs : n < 0
  · have hd : digitsL n = 45 :: digs n.natAbs := by unfold digitsL; rw [if_pos hs]
    have h0 : ¬ (mkT (digitsL n)).size = 0 := by rw [mkT_size, hd]; simp
    have hm : minus (mkT (digitsL n)) = true := by rw [hd]; rfl
    have hb : bare (mkT (digitsL n)) = mkT (digs n.natAbs) := by
      unfold bare
      rw [hm]
      show (mkT (digitsL n)).extract 1 _ = _
      rw [mkT_size, hd]
      refine ByteArray.ext (Array.toList_inj.1 ?_)
      rw [ByteArray.data_extract, Array.toList_extract]
      simp [mkT]
    unfold valM
    rw [if_neg h0, hb, numM_digs hn, hm]
    show ((-(n.natAbs : Int), 0) : Int × Int) = _
    congr 1; omega
  · have hd : digitsL n = digs n.natAbs := by unfold digitsL; rw [if_neg hs]
    have h0 : ¬ (mkT (digitsL n)).size = 0 := by rw [mkT_size, hd, h1]; simp
    have hm : minus (mkT (digitsL n)) = false := by
      rw [hd, h1]
      show (some (UInt8.ofNat (48 + d)) == some 45) = false
      simpa using hne
    have hb : bare (mkT (digitsL n)) = mkT (digs n.natAbs) := by
      unfold bare
      rw [hm, hd]
    unfold valM
    rw [if_neg h0, hb, numM_digs hn, hm]
    show (((n.natAbs : Int), 0) : Int × Int) = _
    congr 1; omega
theorem digs_len : ∀ (m : Nat), (digs m).length ≤ m + 1 := by
  intro m
  induction m using Nat.strongRecOn with
  | _ m ih =>
    by_cases h : 9 < m
    · have := ih (m / 10) (by omega)
      rw [digs_big h, List.length_append]
      simp only [List.length_cons, List.length_nil]; omega
    · rw [digs_small h]; simp
theorem digs_short : ∀ (k m : Nat), m < 10 ^ (k + 1) → (digs m).length ≤ k + 1
  | 0, m, h => by rw [digs_small (by omega)]; simp
  | k + 1, m, h => by
    by_cases h1 : 9 < m
    · have := digs_short k (m / 10) (by rw [Nat.pow_succ] at h; omega)
      rw [digs_big h1, List.length_append]
      simp only [List.length_cons, List.length_nil]; omega
    · rw [digs_small h1]; simp
theorem digits_short {n : Int} (hn : n.natAbs ≤ 4611686018427387904) : (mkT (digitsL n)).size ≤ 1000000000 := by
  have := digs_short 19 n.natAbs (by omega)
  rw [mkT_size]
  unfold digitsL
  split
  · rw [List.length_cons]; omega
  · omega
end Go.Proofs.Ytbbgpbgnbgiaiaa.EvA
