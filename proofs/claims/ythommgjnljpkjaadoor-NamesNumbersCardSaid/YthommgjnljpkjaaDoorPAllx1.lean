-- Written by a program of this work (wip/tools/gprint.py).
import Derived.Test.YthommgjnljpkjaaDoorPAllx0
namespace Go.Proofs.YthommgjnljpkjaaDoor.PAll
open Go.RowKit Go.Proofs.YthommgjnljpkjaaDoorW.PrintWords Go.Proofs.YthommgjnljpkjaaDoorW.PrintLast Go.Proofs.YthommgjnljpkjaaDoorW.PrintMore
attribute [local go_sem] max2_int min2_int max_two min_two max_three min_three max_four min_four   -- for this text's walks alone
set_option linter.unusedVariables false
set_option linter.unusedSimpArgs false

/-! ### conchlaw0_all: function 4 -/
def conchlaw0_all.f  : Option ((List (S25))) := some (([(⟨0, 0⟩ : S25), (⟨1, 1⟩ : S25), (⟨2, 2⟩ : S25), (⟨3, 3⟩ : S25), (⟨4, 4⟩ : S25), (⟨5, 5⟩ : S25), (⟨6, 6⟩ : S25), (⟨7, 7⟩ : S25), (⟨8, 8⟩ : S25), (⟨9, 9⟩ : S25), (⟨10, 10⟩ : S25), (⟨11, 11⟩ : S25), (⟨12, 12⟩ : S25), (⟨13, 13⟩ : S25), (⟨14, 14⟩ : S25), (⟨15, 15⟩ : S25), (⟨16, 16⟩ : S25), (⟨17, 17⟩ : S25), (⟨20000, 20000⟩ : S25), (⟨40, 40⟩ : S25), (⟨20, 20⟩ : S25), (⟨64, 64⟩ : S25), (⟨4096, 4096⟩ : S25), (⟨200, 200⟩ : S25), (⟨100, 100⟩ : S25), (⟨200, 200⟩ : S25), (⟨16, 16⟩ : S25), (⟨8, 8⟩ : S25), (⟨20000, 20000⟩ : S25), (⟨1000, 1000⟩ : S25), (⟨100000, 100000⟩ : S25), (⟨300, 300⟩ : S25), (⟨10000, 10000⟩ : S25), (⟨1, 1⟩ : S25), (⟨2, 2⟩ : S25), (⟨3, 3⟩ : S25), (⟨4, 4⟩ : S25), (⟨0, 0⟩ : S25), (⟨1, 1⟩ : S25), (⟨2, 2⟩ : S25), (⟨3, 3⟩ : S25), (⟨4, 4⟩ : S25), (⟨5, 5⟩ : S25), (⟨6, 6⟩ : S25), (⟨7, 7⟩ : S25), (⟨8, 8⟩ : S25), (⟨9, 9⟩ : S25), (⟨1, 1⟩ : S25), (⟨2, 2⟩ : S25), (⟨3, 3⟩ : S25), (⟨4, 4⟩ : S25), (⟨5, 5⟩ : S25), (⟨6, 6⟩ : S25), (⟨7, 7⟩ : S25), (⟨8, 8⟩ : S25), (⟨9, 9⟩ : S25), (⟨10, 10⟩ : S25), (⟨11, 11⟩ : S25), (⟨12, 12⟩ : S25), (⟨13, 13⟩ : S25), (⟨1, 1⟩ : S25), (⟨2, 2⟩ : S25), (⟨3, 3⟩ : S25), (⟨1, 1⟩ : S25), (⟨2, 2⟩ : S25), (⟨3, 3⟩ : S25), (⟨4, 4⟩ : S25), (⟨5, 5⟩ : S25), (⟨6, 6⟩ : S25), (⟨7, 7⟩ : S25), (⟨8, 8⟩ : S25), (⟨9, 9⟩ : S25), (⟨10, 10⟩ : S25), (⟨11, 11⟩ : S25), (⟨12, 12⟩ : S25), (⟨13, 13⟩ : S25), (⟨14, 14⟩ : S25), (⟨15, 15⟩ : S25), (⟨16, 16⟩ : S25), (⟨17, 17⟩ : S25), (⟨18, 18⟩ : S25), (⟨0, 0⟩ : S25), (⟨1, 1⟩ : S25), (⟨2, 2⟩ : S25), (⟨3, 3⟩ : S25), (⟨4, 4⟩ : S25), (⟨0, 0⟩ : S25), (⟨1, 1⟩ : S25), (⟨2, 2⟩ : S25), (⟨3, 3⟩ : S25), (⟨4, 4⟩ : S25), (⟨1, 1⟩ : S25), (⟨2, 2⟩ : S25), (⟨3, 3⟩ : S25), (⟨1, 1⟩ : S25), (⟨2, 2⟩ : S25), (⟨3, 3⟩ : S25), (⟨4, 4⟩ : S25), (⟨5, 5⟩ : S25), (⟨1, 1⟩ : S25), (⟨2, 2⟩ : S25), (⟨3, 3⟩ : S25), (⟨4, 4⟩ : S25), (⟨5, 5⟩ : S25), (⟨6, 6⟩ : S25), (⟨1, 1⟩ : S25), (⟨2, 2⟩ : S25), (⟨3, 3⟩ : S25)] : List (S25)))
set_option maxHeartbeats 8000000 in
set_option maxRecDepth 100000 in
theorem conchlaw0_all.calls  (r : List (S25)) (w : World) (h : conchlaw0_all.f  = some r) :
    Calls Tryd.prog 4 #[] w fun e w' => ∃ v0_ : Value, e = .returned (v0_) ∧ Kd.R k25 25 w' w.heap.size (fun _ => True) v0_ r ∧ Below w.heap.size w w' := by
  have hu25 := Tryd.underlying25
  have HB := Aside0.mk (Below.refl w.heap.size w)
  have H : (some (([(⟨0, 0⟩ : S25), (⟨1, 1⟩ : S25), (⟨2, 2⟩ : S25), (⟨3, 3⟩ : S25), (⟨4, 4⟩ : S25), (⟨5, 5⟩ : S25), (⟨6, 6⟩ : S25), (⟨7, 7⟩ : S25), (⟨8, 8⟩ : S25), (⟨9, 9⟩ : S25), (⟨10, 10⟩ : S25), (⟨11, 11⟩ : S25), (⟨12, 12⟩ : S25), (⟨13, 13⟩ : S25), (⟨14, 14⟩ : S25), (⟨15, 15⟩ : S25), (⟨16, 16⟩ : S25), (⟨17, 17⟩ : S25), (⟨20000, 20000⟩ : S25), (⟨40, 40⟩ : S25), (⟨20, 20⟩ : S25), (⟨64, 64⟩ : S25), (⟨4096, 4096⟩ : S25), (⟨200, 200⟩ : S25), (⟨100, 100⟩ : S25), (⟨200, 200⟩ : S25), (⟨16, 16⟩ : S25), (⟨8, 8⟩ : S25), (⟨20000, 20000⟩ : S25), (⟨1000, 1000⟩ : S25), (⟨100000, 100000⟩ : S25), (⟨300, 300⟩ : S25), (⟨10000, 10000⟩ : S25), (⟨1, 1⟩ : S25), (⟨2, 2⟩ : S25), (⟨3, 3⟩ : S25), (⟨4, 4⟩ : S25), (⟨0, 0⟩ : S25), (⟨1, 1⟩ : S25), (⟨2, 2⟩ : S25), (⟨3, 3⟩ : S25), (⟨4, 4⟩ : S25), (⟨5, 5⟩ : S25), (⟨6, 6⟩ : S25), (⟨7, 7⟩ : S25), (⟨8, 8⟩ : S25), (⟨9, 9⟩ : S25), (⟨1, 1⟩ : S25), (⟨2, 2⟩ : S25), (⟨3, 3⟩ : S25), (⟨4, 4⟩ : S25), (⟨5, 5⟩ : S25), (⟨6, 6⟩ : S25), (⟨7, 7⟩ : S25), (⟨8, 8⟩ : S25), (⟨9, 9⟩ : S25), (⟨10, 10⟩ : S25), (⟨11, 11⟩ : S25), (⟨12, 12⟩ : S25), (⟨13, 13⟩ : S25), (⟨1, 1⟩ : S25), (⟨2, 2⟩ : S25), (⟨3, 3⟩ : S25), (⟨1, 1⟩ : S25), (⟨2, 2⟩ : S25), (⟨3, 3⟩ : S25), (⟨4, 4⟩ : S25), (⟨5, 5⟩ : S25), (⟨6, 6⟩ : S25), (⟨7, 7⟩ : S25), (⟨8, 8⟩ : S25), (⟨9, 9⟩ : S25), (⟨10, 10⟩ : S25), (⟨11, 11⟩ : S25), (⟨12, 12⟩ : S25), (⟨13, 13⟩ : S25), (⟨14, 14⟩ : S25), (⟨15, 15⟩ : S25), (⟨16, 16⟩ : S25), (⟨17, 17⟩ : S25), (⟨18, 18⟩ : S25), (⟨0, 0⟩ : S25), (⟨1, 1⟩ : S25), (⟨2, 2⟩ : S25), (⟨3, 3⟩ : S25), (⟨4, 4⟩ : S25), (⟨0, 0⟩ : S25), (⟨1, 1⟩ : S25), (⟨2, 2⟩ : S25), (⟨3, 3⟩ : S25), (⟨4, 4⟩ : S25), (⟨1, 1⟩ : S25), (⟨2, 2⟩ : S25), (⟨3, 3⟩ : S25), (⟨1, 1⟩ : S25), (⟨2, 2⟩ : S25), (⟨3, 3⟩ : S25), (⟨4, 4⟩ : S25), (⟨5, 5⟩ : S25), (⟨1, 1⟩ : S25), (⟨2, 2⟩ : S25), (⟨3, 3⟩ : S25), (⟨4, 4⟩ : S25), (⟨5, 5⟩ : S25), (⟨6, 6⟩ : S25), (⟨1, 1⟩ : S25), (⟨2, 2⟩ : S25), (⟨3, 3⟩ : S25)] : List (S25)))) = some r := h
  clear h
  obtain ⟨y101, hy101⟩ : ∃ y_ : List (S25), y_ = (([(⟨0, 0⟩ : S25), (⟨1, 1⟩ : S25), (⟨2, 2⟩ : S25), (⟨3, 3⟩ : S25), (⟨4, 4⟩ : S25), (⟨5, 5⟩ : S25), (⟨6, 6⟩ : S25), (⟨7, 7⟩ : S25), (⟨8, 8⟩ : S25), (⟨9, 9⟩ : S25), (⟨10, 10⟩ : S25), (⟨11, 11⟩ : S25), (⟨12, 12⟩ : S25), (⟨13, 13⟩ : S25), (⟨14, 14⟩ : S25), (⟨15, 15⟩ : S25), (⟨16, 16⟩ : S25), (⟨17, 17⟩ : S25), (⟨20000, 20000⟩ : S25), (⟨40, 40⟩ : S25), (⟨20, 20⟩ : S25), (⟨64, 64⟩ : S25), (⟨4096, 4096⟩ : S25), (⟨200, 200⟩ : S25), (⟨100, 100⟩ : S25), (⟨200, 200⟩ : S25), (⟨16, 16⟩ : S25), (⟨8, 8⟩ : S25), (⟨20000, 20000⟩ : S25), (⟨1000, 1000⟩ : S25), (⟨100000, 100000⟩ : S25), (⟨300, 300⟩ : S25), (⟨10000, 10000⟩ : S25), (⟨1, 1⟩ : S25), (⟨2, 2⟩ : S25), (⟨3, 3⟩ : S25), (⟨4, 4⟩ : S25), (⟨0, 0⟩ : S25), (⟨1, 1⟩ : S25), (⟨2, 2⟩ : S25), (⟨3, 3⟩ : S25), (⟨4, 4⟩ : S25), (⟨5, 5⟩ : S25), (⟨6, 6⟩ : S25), (⟨7, 7⟩ : S25), (⟨8, 8⟩ : S25), (⟨9, 9⟩ : S25), (⟨1, 1⟩ : S25), (⟨2, 2⟩ : S25), (⟨3, 3⟩ : S25), (⟨4, 4⟩ : S25), (⟨5, 5⟩ : S25), (⟨6, 6⟩ : S25), (⟨7, 7⟩ : S25), (⟨8, 8⟩ : S25), (⟨9, 9⟩ : S25), (⟨10, 10⟩ : S25), (⟨11, 11⟩ : S25), (⟨12, 12⟩ : S25), (⟨13, 13⟩ : S25), (⟨1, 1⟩ : S25), (⟨2, 2⟩ : S25), (⟨3, 3⟩ : S25), (⟨1, 1⟩ : S25), (⟨2, 2⟩ : S25), (⟨3, 3⟩ : S25), (⟨4, 4⟩ : S25), (⟨5, 5⟩ : S25), (⟨6, 6⟩ : S25), (⟨7, 7⟩ : S25), (⟨8, 8⟩ : S25), (⟨9, 9⟩ : S25), (⟨10, 10⟩ : S25), (⟨11, 11⟩ : S25), (⟨12, 12⟩ : S25), (⟨13, 13⟩ : S25), (⟨14, 14⟩ : S25), (⟨15, 15⟩ : S25), (⟨16, 16⟩ : S25), (⟨17, 17⟩ : S25), (⟨18, 18⟩ : S25), (⟨0, 0⟩ : S25), (⟨1, 1⟩ : S25), (⟨2, 2⟩ : S25), (⟨3, 3⟩ : S25), (⟨4, 4⟩ : S25), (⟨0, 0⟩ : S25), (⟨1, 1⟩ : S25), (⟨2, 2⟩ : S25), (⟨3, 3⟩ : S25), (⟨4, 4⟩ : S25), (⟨1, 1⟩ : S25), (⟨2, 2⟩ : S25), (⟨3, 3⟩ : S25), (⟨1, 1⟩ : S25), (⟨2, 2⟩ : S25), (⟨3, 3⟩ : S25), (⟨4, 4⟩ : S25), (⟨5, 5⟩ : S25), (⟨1, 1⟩ : S25), (⟨2, 2⟩ : S25), (⟨3, 3⟩ : S25), (⟨4, 4⟩ : S25), (⟨5, 5⟩ : S25), (⟨6, 6⟩ : S25), (⟨1, 1⟩ : S25), (⟨2, 2⟩ : S25), (⟨3, 3⟩ : S25)] : List (S25))) := ⟨_, rfl⟩
  replace H : (some y101) = some r := by first | (rw [hy101]; with_reducible exact H) | (have H2_ := (Option.bind_some _ _).symm.trans H; rw [hy101]; with_reducible exact H2_) | (have H2_ := (Option.bind_some _ _).symm.trans H; with_reducible exact H2_) | with_reducible exact H | (rw [hy101]; exact H) | exact H
  have Ny101 := Aside0.mk hy101
  clear hy101
  obtain rfl := Option.some.inj H
  go_enter Tryd.func4, Tryd.ntmps4
  go_wp2_with (first | ((with_reducible refine gate_dst (N := 109) rfl ?_); refine Kd.R_lit k25 _ 25 ?hg (N := 109) ?hd (xs := ([(⟨0, 0⟩ : S25), (⟨1, 1⟩ : S25), (⟨2, 2⟩ : S25), (⟨3, 3⟩ : S25), (⟨4, 4⟩ : S25), (⟨5, 5⟩ : S25), (⟨6, 6⟩ : S25), (⟨7, 7⟩ : S25), (⟨8, 8⟩ : S25), (⟨9, 9⟩ : S25), (⟨10, 10⟩ : S25), (⟨11, 11⟩ : S25), (⟨12, 12⟩ : S25), (⟨13, 13⟩ : S25), (⟨14, 14⟩ : S25), (⟨15, 15⟩ : S25), (⟨16, 16⟩ : S25), (⟨17, 17⟩ : S25), (⟨20000, 20000⟩ : S25), (⟨40, 40⟩ : S25), (⟨20, 20⟩ : S25), (⟨64, 64⟩ : S25), (⟨4096, 4096⟩ : S25), (⟨200, 200⟩ : S25), (⟨100, 100⟩ : S25), (⟨200, 200⟩ : S25), (⟨16, 16⟩ : S25), (⟨8, 8⟩ : S25), (⟨20000, 20000⟩ : S25), (⟨1000, 1000⟩ : S25), (⟨100000, 100000⟩ : S25), (⟨300, 300⟩ : S25), (⟨10000, 10000⟩ : S25), (⟨1, 1⟩ : S25), (⟨2, 2⟩ : S25), (⟨3, 3⟩ : S25), (⟨4, 4⟩ : S25), (⟨0, 0⟩ : S25), (⟨1, 1⟩ : S25), (⟨2, 2⟩ : S25), (⟨3, 3⟩ : S25), (⟨4, 4⟩ : S25), (⟨5, 5⟩ : S25), (⟨6, 6⟩ : S25), (⟨7, 7⟩ : S25), (⟨8, 8⟩ : S25), (⟨9, 9⟩ : S25), (⟨1, 1⟩ : S25), (⟨2, 2⟩ : S25), (⟨3, 3⟩ : S25), (⟨4, 4⟩ : S25), (⟨5, 5⟩ : S25), (⟨6, 6⟩ : S25), (⟨7, 7⟩ : S25), (⟨8, 8⟩ : S25), (⟨9, 9⟩ : S25), (⟨10, 10⟩ : S25), (⟨11, 11⟩ : S25), (⟨12, 12⟩ : S25), (⟨13, 13⟩ : S25), (⟨1, 1⟩ : S25), (⟨2, 2⟩ : S25), (⟨3, 3⟩ : S25), (⟨1, 1⟩ : S25), (⟨2, 2⟩ : S25), (⟨3, 3⟩ : S25), (⟨4, 4⟩ : S25), (⟨5, 5⟩ : S25), (⟨6, 6⟩ : S25), (⟨7, 7⟩ : S25), (⟨8, 8⟩ : S25), (⟨9, 9⟩ : S25), (⟨10, 10⟩ : S25), (⟨11, 11⟩ : S25), (⟨12, 12⟩ : S25), (⟨13, 13⟩ : S25), (⟨14, 14⟩ : S25), (⟨15, 15⟩ : S25), (⟨16, 16⟩ : S25), (⟨17, 17⟩ : S25), (⟨18, 18⟩ : S25), (⟨0, 0⟩ : S25), (⟨1, 1⟩ : S25), (⟨2, 2⟩ : S25), (⟨3, 3⟩ : S25), (⟨4, 4⟩ : S25), (⟨0, 0⟩ : S25), (⟨1, 1⟩ : S25), (⟨2, 2⟩ : S25), (⟨3, 3⟩ : S25), (⟨4, 4⟩ : S25), (⟨1, 1⟩ : S25), (⟨2, 2⟩ : S25), (⟨3, 3⟩ : S25), (⟨1, 1⟩ : S25), (⟨2, 2⟩ : S25), (⟨3, 3⟩ : S25), (⟨4, 4⟩ : S25), (⟨5, 5⟩ : S25), (⟨1, 1⟩ : S25), (⟨2, 2⟩ : S25), (⟨3, 3⟩ : S25), (⟨4, 4⟩ : S25), (⟨5, 5⟩ : S25), (⟨6, 6⟩ : S25), (⟨1, 1⟩ : S25), (⟨2, 2⟩ : S25), (⟨3, 3⟩ : S25)] : List (S25))) (inner := [.int .i64 0, .int .i64 0, .int .i64 1, .int .i64 1, .int .i64 2, .int .i64 2, .int .i64 3, .int .i64 3, .int .i64 4, .int .i64 4, .int .i64 5, .int .i64 5, .int .i64 6, .int .i64 6, .int .i64 7, .int .i64 7, .int .i64 8, .int .i64 8, .int .i64 9, .int .i64 9, .int .i64 10, .int .i64 10, .int .i64 11, .int .i64 11, .int .i64 12, .int .i64 12, .int .i64 13, .int .i64 13, .int .i64 14, .int .i64 14, .int .i64 15, .int .i64 15, .int .i64 16, .int .i64 16, .int .i64 17, .int .i64 17, .int .i64 20000, .int .i64 20000, .int .i64 40, .int .i64 40, .int .i64 20, .int .i64 20, .int .i64 64, .int .i64 64, .int .i64 4096, .int .i64 4096, .int .i64 200, .int .i64 200, .int .i64 100, .int .i64 100, .int .i64 200, .int .i64 200, .int .i64 16, .int .i64 16, .int .i64 8, .int .i64 8, .int .i64 20000, .int .i64 20000, .int .i64 1000, .int .i64 1000, .int .i64 100000, .int .i64 100000, .int .i64 300, .int .i64 300, .int .i64 10000, .int .i64 10000, .int .i64 1, .int .i64 1, .int .i64 2, .int .i64 2, .int .i64 3, .int .i64 3, .int .i64 4, .int .i64 4, .int .i64 0, .int .i64 0, .int .i64 1, .int .i64 1, .int .i64 2, .int .i64 2, .int .i64 3, .int .i64 3, .int .i64 4, .int .i64 4, .int .i64 5, .int .i64 5, .int .i64 6, .int .i64 6, .int .i64 7, .int .i64 7, .int .i64 8, .int .i64 8, .int .i64 9, .int .i64 9, .int .i64 1, .int .i64 1, .int .i64 2, .int .i64 2, .int .i64 3, .int .i64 3, .int .i64 4, .int .i64 4, .int .i64 5, .int .i64 5, .int .i64 6, .int .i64 6, .int .i64 7, .int .i64 7, .int .i64 8, .int .i64 8, .int .i64 9, .int .i64 9, .int .i64 10, .int .i64 10, .int .i64 11, .int .i64 11, .int .i64 12, .int .i64 12, .int .i64 13, .int .i64 13, .int .i64 1, .int .i64 1, .int .i64 2, .int .i64 2, .int .i64 3, .int .i64 3, .int .i64 1, .int .i64 1, .int .i64 2, .int .i64 2, .int .i64 3, .int .i64 3, .int .i64 4, .int .i64 4, .int .i64 5, .int .i64 5, .int .i64 6, .int .i64 6, .int .i64 7, .int .i64 7, .int .i64 8, .int .i64 8, .int .i64 9, .int .i64 9, .int .i64 10, .int .i64 10, .int .i64 11, .int .i64 11, .int .i64 12, .int .i64 12, .int .i64 13, .int .i64 13, .int .i64 14, .int .i64 14, .int .i64 15, .int .i64 15, .int .i64 16, .int .i64 16, .int .i64 17, .int .i64 17, .int .i64 18, .int .i64 18, .int .i64 0, .int .i64 0, .int .i64 1, .int .i64 1, .int .i64 2, .int .i64 2, .int .i64 3, .int .i64 3, .int .i64 4, .int .i64 4, .int .i64 0, .int .i64 0, .int .i64 1, .int .i64 1, .int .i64 2, .int .i64 2, .int .i64 3, .int .i64 3, .int .i64 4, .int .i64 4, .int .i64 1, .int .i64 1, .int .i64 2, .int .i64 2, .int .i64 3, .int .i64 3, .int .i64 1, .int .i64 1, .int .i64 2, .int .i64 2, .int .i64 3, .int .i64 3, .int .i64 4, .int .i64 4, .int .i64 5, .int .i64 5, .int .i64 1, .int .i64 1, .int .i64 2, .int .i64 2, .int .i64 3, .int .i64 3, .int .i64 4, .int .i64 4, .int .i64 5, .int .i64 5, .int .i64 6, .int .i64 6, .int .i64 1, .int .i64 1, .int .i64 2, .int .i64 2, .int .i64 3, .int .i64 3]) (ok := fun _ => True) (okp := fun _ => True) ?hr ?hp (fun _ hk => hk) trivial (Below.refl _ _) (Nat.le_refl _) (by simp) ?_; (case hd => rfl); (case hg => rfl); (case hr => first | kernel_rfl | (go_simp; done) | (go_simp; rfl)); (case hp => exact (Reps.c2 (show Kd.M k25 _ _ _ (⟨0, 0⟩ : S25) [.int .i64 0, .int .i64 0] from (k25_mkM _ _ _ (⟨0, 0⟩ : S25) )) (Reps.c2 (show Kd.M k25 _ _ _ (⟨1, 1⟩ : S25) [.int .i64 1, .int .i64 1] from (k25_mkM _ _ _ (⟨1, 1⟩ : S25) )) (Reps.c2 (show Kd.M k25 _ _ _ (⟨2, 2⟩ : S25) [.int .i64 2, .int .i64 2] from (k25_mkM _ _ _ (⟨2, 2⟩ : S25) )) (Reps.c2 (show Kd.M k25 _ _ _ (⟨3, 3⟩ : S25) [.int .i64 3, .int .i64 3] from (k25_mkM _ _ _ (⟨3, 3⟩ : S25) )) (Reps.c2 (show Kd.M k25 _ _ _ (⟨4, 4⟩ : S25) [.int .i64 4, .int .i64 4] from (k25_mkM _ _ _ (⟨4, 4⟩ : S25) )) (Reps.c2 (show Kd.M k25 _ _ _ (⟨5, 5⟩ : S25) [.int .i64 5, .int .i64 5] from (k25_mkM _ _ _ (⟨5, 5⟩ : S25) )) (Reps.c2 (show Kd.M k25 _ _ _ (⟨6, 6⟩ : S25) [.int .i64 6, .int .i64 6] from (k25_mkM _ _ _ (⟨6, 6⟩ : S25) )) (Reps.c2 (show Kd.M k25 _ _ _ (⟨7, 7⟩ : S25) [.int .i64 7, .int .i64 7] from (k25_mkM _ _ _ (⟨7, 7⟩ : S25) )) (Reps.c2 (show Kd.M k25 _ _ _ (⟨8, 8⟩ : S25) [.int .i64 8, .int .i64 8] from (k25_mkM _ _ _ (⟨8, 8⟩ : S25) )) (Reps.c2 (show Kd.M k25 _ _ _ (⟨9, 9⟩ : S25) [.int .i64 9, .int .i64 9] from (k25_mkM _ _ _ (⟨9, 9⟩ : S25) )) (Reps.c2 (show Kd.M k25 _ _ _ (⟨10, 10⟩ : S25) [.int .i64 10, .int .i64 10] from (k25_mkM _ _ _ (⟨10, 10⟩ : S25) )) (Reps.c2 (show Kd.M k25 _ _ _ (⟨11, 11⟩ : S25) [.int .i64 11, .int .i64 11] from (k25_mkM _ _ _ (⟨11, 11⟩ : S25) )) (Reps.c2 (show Kd.M k25 _ _ _ (⟨12, 12⟩ : S25) [.int .i64 12, .int .i64 12] from (k25_mkM _ _ _ (⟨12, 12⟩ : S25) )) (Reps.c2 (show Kd.M k25 _ _ _ (⟨13, 13⟩ : S25) [.int .i64 13, .int .i64 13] from (k25_mkM _ _ _ (⟨13, 13⟩ : S25) )) (Reps.c2 (show Kd.M k25 _ _ _ (⟨14, 14⟩ : S25) [.int .i64 14, .int .i64 14] from (k25_mkM _ _ _ (⟨14, 14⟩ : S25) )) (Reps.c2 (show Kd.M k25 _ _ _ (⟨15, 15⟩ : S25) [.int .i64 15, .int .i64 15] from (k25_mkM _ _ _ (⟨15, 15⟩ : S25) )) (Reps.c2 (show Kd.M k25 _ _ _ (⟨16, 16⟩ : S25) [.int .i64 16, .int .i64 16] from (k25_mkM _ _ _ (⟨16, 16⟩ : S25) )) (Reps.c2 (show Kd.M k25 _ _ _ (⟨17, 17⟩ : S25) [.int .i64 17, .int .i64 17] from (k25_mkM _ _ _ (⟨17, 17⟩ : S25) )) (Reps.c2 (show Kd.M k25 _ _ _ (⟨20000, 20000⟩ : S25) [.int .i64 20000, .int .i64 20000] from (k25_mkM _ _ _ (⟨20000, 20000⟩ : S25) )) (Reps.c2 (show Kd.M k25 _ _ _ (⟨40, 40⟩ : S25) [.int .i64 40, .int .i64 40] from (k25_mkM _ _ _ (⟨40, 40⟩ : S25) )) (Reps.c2 (show Kd.M k25 _ _ _ (⟨20, 20⟩ : S25) [.int .i64 20, .int .i64 20] from (k25_mkM _ _ _ (⟨20, 20⟩ : S25) )) (Reps.c2 (show Kd.M k25 _ _ _ (⟨64, 64⟩ : S25) [.int .i64 64, .int .i64 64] from (k25_mkM _ _ _ (⟨64, 64⟩ : S25) )) (Reps.c2 (show Kd.M k25 _ _ _ (⟨4096, 4096⟩ : S25) [.int .i64 4096, .int .i64 4096] from (k25_mkM _ _ _ (⟨4096, 4096⟩ : S25) )) (Reps.c2 (show Kd.M k25 _ _ _ (⟨200, 200⟩ : S25) [.int .i64 200, .int .i64 200] from (k25_mkM _ _ _ (⟨200, 200⟩ : S25) )) (Reps.c2 (show Kd.M k25 _ _ _ (⟨100, 100⟩ : S25) [.int .i64 100, .int .i64 100] from (k25_mkM _ _ _ (⟨100, 100⟩ : S25) )) (Reps.c2 (show Kd.M k25 _ _ _ (⟨200, 200⟩ : S25) [.int .i64 200, .int .i64 200] from (k25_mkM _ _ _ (⟨200, 200⟩ : S25) )) (Reps.c2 (show Kd.M k25 _ _ _ (⟨16, 16⟩ : S25) [.int .i64 16, .int .i64 16] from (k25_mkM _ _ _ (⟨16, 16⟩ : S25) )) (Reps.c2 (show Kd.M k25 _ _ _ (⟨8, 8⟩ : S25) [.int .i64 8, .int .i64 8] from (k25_mkM _ _ _ (⟨8, 8⟩ : S25) )) (Reps.c2 (show Kd.M k25 _ _ _ (⟨20000, 20000⟩ : S25) [.int .i64 20000, .int .i64 20000] from (k25_mkM _ _ _ (⟨20000, 20000⟩ : S25) )) (Reps.c2 (show Kd.M k25 _ _ _ (⟨1000, 1000⟩ : S25) [.int .i64 1000, .int .i64 1000] from (k25_mkM _ _ _ (⟨1000, 1000⟩ : S25) )) (Reps.c2 (show Kd.M k25 _ _ _ (⟨100000, 100000⟩ : S25) [.int .i64 100000, .int .i64 100000] from (k25_mkM _ _ _ (⟨100000, 100000⟩ : S25) )) (Reps.c2 (show Kd.M k25 _ _ _ (⟨300, 300⟩ : S25) [.int .i64 300, .int .i64 300] from (k25_mkM _ _ _ (⟨300, 300⟩ : S25) )) (Reps.c2 (show Kd.M k25 _ _ _ (⟨10000, 10000⟩ : S25) [.int .i64 10000, .int .i64 10000] from (k25_mkM _ _ _ (⟨10000, 10000⟩ : S25) )) (Reps.c2 (show Kd.M k25 _ _ _ (⟨1, 1⟩ : S25) [.int .i64 1, .int .i64 1] from (k25_mkM _ _ _ (⟨1, 1⟩ : S25) )) (Reps.c2 (show Kd.M k25 _ _ _ (⟨2, 2⟩ : S25) [.int .i64 2, .int .i64 2] from (k25_mkM _ _ _ (⟨2, 2⟩ : S25) )) (Reps.c2 (show Kd.M k25 _ _ _ (⟨3, 3⟩ : S25) [.int .i64 3, .int .i64 3] from (k25_mkM _ _ _ (⟨3, 3⟩ : S25) )) (Reps.c2 (show Kd.M k25 _ _ _ (⟨4, 4⟩ : S25) [.int .i64 4, .int .i64 4] from (k25_mkM _ _ _ (⟨4, 4⟩ : S25) )) (Reps.c2 (show Kd.M k25 _ _ _ (⟨0, 0⟩ : S25) [.int .i64 0, .int .i64 0] from (k25_mkM _ _ _ (⟨0, 0⟩ : S25) )) (Reps.c2 (show Kd.M k25 _ _ _ (⟨1, 1⟩ : S25) [.int .i64 1, .int .i64 1] from (k25_mkM _ _ _ (⟨1, 1⟩ : S25) )) (Reps.c2 (show Kd.M k25 _ _ _ (⟨2, 2⟩ : S25) [.int .i64 2, .int .i64 2] from (k25_mkM _ _ _ (⟨2, 2⟩ : S25) )) (Reps.c2 (show Kd.M k25 _ _ _ (⟨3, 3⟩ : S25) [.int .i64 3, .int .i64 3] from (k25_mkM _ _ _ (⟨3, 3⟩ : S25) )) (Reps.c2 (show Kd.M k25 _ _ _ (⟨4, 4⟩ : S25) [.int .i64 4, .int .i64 4] from (k25_mkM _ _ _ (⟨4, 4⟩ : S25) )) (Reps.c2 (show Kd.M k25 _ _ _ (⟨5, 5⟩ : S25) [.int .i64 5, .int .i64 5] from (k25_mkM _ _ _ (⟨5, 5⟩ : S25) )) (Reps.c2 (show Kd.M k25 _ _ _ (⟨6, 6⟩ : S25) [.int .i64 6, .int .i64 6] from (k25_mkM _ _ _ (⟨6, 6⟩ : S25) )) (Reps.c2 (show Kd.M k25 _ _ _ (⟨7, 7⟩ : S25) [.int .i64 7, .int .i64 7] from (k25_mkM _ _ _ (⟨7, 7⟩ : S25) )) (Reps.c2 (show Kd.M k25 _ _ _ (⟨8, 8⟩ : S25) [.int .i64 8, .int .i64 8] from (k25_mkM _ _ _ (⟨8, 8⟩ : S25) )) (Reps.c2 (show Kd.M k25 _ _ _ (⟨9, 9⟩ : S25) [.int .i64 9, .int .i64 9] from (k25_mkM _ _ _ (⟨9, 9⟩ : S25) )) (Reps.c2 (show Kd.M k25 _ _ _ (⟨1, 1⟩ : S25) [.int .i64 1, .int .i64 1] from (k25_mkM _ _ _ (⟨1, 1⟩ : S25) )) (Reps.c2 (show Kd.M k25 _ _ _ (⟨2, 2⟩ : S25) [.int .i64 2, .int .i64 2] from (k25_mkM _ _ _ (⟨2, 2⟩ : S25) )) (Reps.c2 (show Kd.M k25 _ _ _ (⟨3, 3⟩ : S25) [.int .i64 3, .int .i64 3] from (k25_mkM _ _ _ (⟨3, 3⟩ : S25) )) (Reps.c2 (show Kd.M k25 _ _ _ (⟨4, 4⟩ : S25) [.int .i64 4, .int .i64 4] from (k25_mkM _ _ _ (⟨4, 4⟩ : S25) )) (Reps.c2 (show Kd.M k25 _ _ _ (⟨5, 5⟩ : S25) [.int .i64 5, .int .i64 5] from (k25_mkM _ _ _ (⟨5, 5⟩ : S25) )) (Reps.c2 (show Kd.M k25 _ _ _ (⟨6, 6⟩ : S25) [.int .i64 6, .int .i64 6] from (k25_mkM _ _ _ (⟨6, 6⟩ : S25) )) (Reps.c2 (show Kd.M k25 _ _ _ (⟨7, 7⟩ : S25) [.int .i64 7, .int .i64 7] from (k25_mkM _ _ _ (⟨7, 7⟩ : S25) )) (Reps.c2 (show Kd.M k25 _ _ _ (⟨8, 8⟩ : S25) [.int .i64 8, .int .i64 8] from (k25_mkM _ _ _ (⟨8, 8⟩ : S25) )) (Reps.c2 (show Kd.M k25 _ _ _ (⟨9, 9⟩ : S25) [.int .i64 9, .int .i64 9] from (k25_mkM _ _ _ (⟨9, 9⟩ : S25) )) (Reps.c2 (show Kd.M k25 _ _ _ (⟨10, 10⟩ : S25) [.int .i64 10, .int .i64 10] from (k25_mkM _ _ _ (⟨10, 10⟩ : S25) )) (Reps.c2 (show Kd.M k25 _ _ _ (⟨11, 11⟩ : S25) [.int .i64 11, .int .i64 11] from (k25_mkM _ _ _ (⟨11, 11⟩ : S25) )) (Reps.c2 (show Kd.M k25 _ _ _ (⟨12, 12⟩ : S25) [.int .i64 12, .int .i64 12] from (k25_mkM _ _ _ (⟨12, 12⟩ : S25) )) (Reps.c2 (show Kd.M k25 _ _ _ (⟨13, 13⟩ : S25) [.int .i64 13, .int .i64 13] from (k25_mkM _ _ _ (⟨13, 13⟩ : S25) )) (Reps.c2 (show Kd.M k25 _ _ _ (⟨1, 1⟩ : S25) [.int .i64 1, .int .i64 1] from (k25_mkM _ _ _ (⟨1, 1⟩ : S25) )) (Reps.c2 (show Kd.M k25 _ _ _ (⟨2, 2⟩ : S25) [.int .i64 2, .int .i64 2] from (k25_mkM _ _ _ (⟨2, 2⟩ : S25) )) (Reps.c2 (show Kd.M k25 _ _ _ (⟨3, 3⟩ : S25) [.int .i64 3, .int .i64 3] from (k25_mkM _ _ _ (⟨3, 3⟩ : S25) )) (Reps.c2 (show Kd.M k25 _ _ _ (⟨1, 1⟩ : S25) [.int .i64 1, .int .i64 1] from (k25_mkM _ _ _ (⟨1, 1⟩ : S25) )) (Reps.c2 (show Kd.M k25 _ _ _ (⟨2, 2⟩ : S25) [.int .i64 2, .int .i64 2] from (k25_mkM _ _ _ (⟨2, 2⟩ : S25) )) (Reps.c2 (show Kd.M k25 _ _ _ (⟨3, 3⟩ : S25) [.int .i64 3, .int .i64 3] from (k25_mkM _ _ _ (⟨3, 3⟩ : S25) )) (Reps.c2 (show Kd.M k25 _ _ _ (⟨4, 4⟩ : S25) [.int .i64 4, .int .i64 4] from (k25_mkM _ _ _ (⟨4, 4⟩ : S25) )) (Reps.c2 (show Kd.M k25 _ _ _ (⟨5, 5⟩ : S25) [.int .i64 5, .int .i64 5] from (k25_mkM _ _ _ (⟨5, 5⟩ : S25) )) (Reps.c2 (show Kd.M k25 _ _ _ (⟨6, 6⟩ : S25) [.int .i64 6, .int .i64 6] from (k25_mkM _ _ _ (⟨6, 6⟩ : S25) )) (Reps.c2 (show Kd.M k25 _ _ _ (⟨7, 7⟩ : S25) [.int .i64 7, .int .i64 7] from (k25_mkM _ _ _ (⟨7, 7⟩ : S25) )) (Reps.c2 (show Kd.M k25 _ _ _ (⟨8, 8⟩ : S25) [.int .i64 8, .int .i64 8] from (k25_mkM _ _ _ (⟨8, 8⟩ : S25) )) (Reps.c2 (show Kd.M k25 _ _ _ (⟨9, 9⟩ : S25) [.int .i64 9, .int .i64 9] from (k25_mkM _ _ _ (⟨9, 9⟩ : S25) )) (Reps.c2 (show Kd.M k25 _ _ _ (⟨10, 10⟩ : S25) [.int .i64 10, .int .i64 10] from (k25_mkM _ _ _ (⟨10, 10⟩ : S25) )) (Reps.c2 (show Kd.M k25 _ _ _ (⟨11, 11⟩ : S25) [.int .i64 11, .int .i64 11] from (k25_mkM _ _ _ (⟨11, 11⟩ : S25) )) (Reps.c2 (show Kd.M k25 _ _ _ (⟨12, 12⟩ : S25) [.int .i64 12, .int .i64 12] from (k25_mkM _ _ _ (⟨12, 12⟩ : S25) )) (Reps.c2 (show Kd.M k25 _ _ _ (⟨13, 13⟩ : S25) [.int .i64 13, .int .i64 13] from (k25_mkM _ _ _ (⟨13, 13⟩ : S25) )) (Reps.c2 (show Kd.M k25 _ _ _ (⟨14, 14⟩ : S25) [.int .i64 14, .int .i64 14] from (k25_mkM _ _ _ (⟨14, 14⟩ : S25) )) (Reps.c2 (show Kd.M k25 _ _ _ (⟨15, 15⟩ : S25) [.int .i64 15, .int .i64 15] from (k25_mkM _ _ _ (⟨15, 15⟩ : S25) )) (Reps.c2 (show Kd.M k25 _ _ _ (⟨16, 16⟩ : S25) [.int .i64 16, .int .i64 16] from (k25_mkM _ _ _ (⟨16, 16⟩ : S25) )) (Reps.c2 (show Kd.M k25 _ _ _ (⟨17, 17⟩ : S25) [.int .i64 17, .int .i64 17] from (k25_mkM _ _ _ (⟨17, 17⟩ : S25) )) (Reps.c2 (show Kd.M k25 _ _ _ (⟨18, 18⟩ : S25) [.int .i64 18, .int .i64 18] from (k25_mkM _ _ _ (⟨18, 18⟩ : S25) )) (Reps.c2 (show Kd.M k25 _ _ _ (⟨0, 0⟩ : S25) [.int .i64 0, .int .i64 0] from (k25_mkM _ _ _ (⟨0, 0⟩ : S25) )) (Reps.c2 (show Kd.M k25 _ _ _ (⟨1, 1⟩ : S25) [.int .i64 1, .int .i64 1] from (k25_mkM _ _ _ (⟨1, 1⟩ : S25) )) (Reps.c2 (show Kd.M k25 _ _ _ (⟨2, 2⟩ : S25) [.int .i64 2, .int .i64 2] from (k25_mkM _ _ _ (⟨2, 2⟩ : S25) )) (Reps.c2 (show Kd.M k25 _ _ _ (⟨3, 3⟩ : S25) [.int .i64 3, .int .i64 3] from (k25_mkM _ _ _ (⟨3, 3⟩ : S25) )) (Reps.c2 (show Kd.M k25 _ _ _ (⟨4, 4⟩ : S25) [.int .i64 4, .int .i64 4] from (k25_mkM _ _ _ (⟨4, 4⟩ : S25) )) (Reps.c2 (show Kd.M k25 _ _ _ (⟨0, 0⟩ : S25) [.int .i64 0, .int .i64 0] from (k25_mkM _ _ _ (⟨0, 0⟩ : S25) )) (Reps.c2 (show Kd.M k25 _ _ _ (⟨1, 1⟩ : S25) [.int .i64 1, .int .i64 1] from (k25_mkM _ _ _ (⟨1, 1⟩ : S25) )) (Reps.c2 (show Kd.M k25 _ _ _ (⟨2, 2⟩ : S25) [.int .i64 2, .int .i64 2] from (k25_mkM _ _ _ (⟨2, 2⟩ : S25) )) (Reps.c2 (show Kd.M k25 _ _ _ (⟨3, 3⟩ : S25) [.int .i64 3, .int .i64 3] from (k25_mkM _ _ _ (⟨3, 3⟩ : S25) )) (Reps.c2 (show Kd.M k25 _ _ _ (⟨4, 4⟩ : S25) [.int .i64 4, .int .i64 4] from (k25_mkM _ _ _ (⟨4, 4⟩ : S25) )) (Reps.c2 (show Kd.M k25 _ _ _ (⟨1, 1⟩ : S25) [.int .i64 1, .int .i64 1] from (k25_mkM _ _ _ (⟨1, 1⟩ : S25) )) (Reps.c2 (show Kd.M k25 _ _ _ (⟨2, 2⟩ : S25) [.int .i64 2, .int .i64 2] from (k25_mkM _ _ _ (⟨2, 2⟩ : S25) )) (Reps.c2 (show Kd.M k25 _ _ _ (⟨3, 3⟩ : S25) [.int .i64 3, .int .i64 3] from (k25_mkM _ _ _ (⟨3, 3⟩ : S25) )) (Reps.c2 (show Kd.M k25 _ _ _ (⟨1, 1⟩ : S25) [.int .i64 1, .int .i64 1] from (k25_mkM _ _ _ (⟨1, 1⟩ : S25) )) (Reps.c2 (show Kd.M k25 _ _ _ (⟨2, 2⟩ : S25) [.int .i64 2, .int .i64 2] from (k25_mkM _ _ _ (⟨2, 2⟩ : S25) )) (Reps.c2 (show Kd.M k25 _ _ _ (⟨3, 3⟩ : S25) [.int .i64 3, .int .i64 3] from (k25_mkM _ _ _ (⟨3, 3⟩ : S25) )) (Reps.c2 (show Kd.M k25 _ _ _ (⟨4, 4⟩ : S25) [.int .i64 4, .int .i64 4] from (k25_mkM _ _ _ (⟨4, 4⟩ : S25) )) (Reps.c2 (show Kd.M k25 _ _ _ (⟨5, 5⟩ : S25) [.int .i64 5, .int .i64 5] from (k25_mkM _ _ _ (⟨5, 5⟩ : S25) )) (Reps.c2 (show Kd.M k25 _ _ _ (⟨1, 1⟩ : S25) [.int .i64 1, .int .i64 1] from (k25_mkM _ _ _ (⟨1, 1⟩ : S25) )) (Reps.c2 (show Kd.M k25 _ _ _ (⟨2, 2⟩ : S25) [.int .i64 2, .int .i64 2] from (k25_mkM _ _ _ (⟨2, 2⟩ : S25) )) (Reps.c2 (show Kd.M k25 _ _ _ (⟨3, 3⟩ : S25) [.int .i64 3, .int .i64 3] from (k25_mkM _ _ _ (⟨3, 3⟩ : S25) )) (Reps.c2 (show Kd.M k25 _ _ _ (⟨4, 4⟩ : S25) [.int .i64 4, .int .i64 4] from (k25_mkM _ _ _ (⟨4, 4⟩ : S25) )) (Reps.c2 (show Kd.M k25 _ _ _ (⟨5, 5⟩ : S25) [.int .i64 5, .int .i64 5] from (k25_mkM _ _ _ (⟨5, 5⟩ : S25) )) (Reps.c2 (show Kd.M k25 _ _ _ (⟨6, 6⟩ : S25) [.int .i64 6, .int .i64 6] from (k25_mkM _ _ _ (⟨6, 6⟩ : S25) )) (Reps.c2 (show Kd.M k25 _ _ _ (⟨1, 1⟩ : S25) [.int .i64 1, .int .i64 1] from (k25_mkM _ _ _ (⟨1, 1⟩ : S25) )) (Reps.c2 (show Kd.M k25 _ _ _ (⟨2, 2⟩ : S25) [.int .i64 2, .int .i64 2] from (k25_mkM _ _ _ (⟨2, 2⟩ : S25) )) (Reps.c2 (show Kd.M k25 _ _ _ (⟨3, 3⟩ : S25) [.int .i64 3, .int .i64 3] from (k25_mkM _ _ _ (⟨3, 3⟩ : S25) )) (Reps.none _ _)))))))))))))))))))))))))))))))))))))))))))))))))))))))))))))))))))))))))))))))))))))))))))))))))))))))))))))); intro v102 w1 ho2 hb hg_ hnew_; clear hg_ hnew_; (first | rw [← Ny101.out] at ho2 | (simp only [Int.reduceToNat] at ho2; rw [← Ny101.out] at ho2)); have n0_ := Aside0.mk (Kd.R_lower ho2 (below_size (by repeat (first | (with_reducible first | exact HB.out | apply below_alloc | apply pw_below_drewN | apply below_drew1) | exact HB.out)))); have n1_ := Aside0.mk (below_step (by repeat (first | (with_reducible first | exact HB.out | apply below_alloc | apply pw_below_drewN | apply below_drew1) | exact HB.out)) hb); clear HB; have HO103 := n0_; have HB := n1_; clear n0_ n1_; clear hb ho2))
  go_ret
  exact ⟨_, by first | rfl | (simp [errW_none, errW_some] <;> rfl) | (simp [*, errW_none, errW_some] <;> rfl), by (with_reducible repeat (first | apply Kd.R_alloc | apply Kd.R_drewN | apply Kd.R_drew)); exact HO103.out, by repeat (first | (with_reducible first | exact HB.out | apply below_alloc | apply pw_below_drewN | apply below_drew1) | exact HB.out)⟩

/-! ### strconv_Itoa: function 6 -/
def strconv_Itoa.f (a0 : Int) : Option (ByteArray) := if 0 ≤ a0 ∧ a0 < 100 then some (⟨(Lib.decDigits a0.toNat).toArray⟩ : ByteArray) else none
set_option maxHeartbeats 1000000 in
theorem strconv_Itoa.calls (a0 : Int) (r : ByteArray) (w : World) (h : strconv_Itoa.f a0 = some r) :
    Calls Tryd.prog 6 #[.int .i64 a0] w fun e w' => e = .returned (.string r) ∧ Drawn0 w w' := by
  unfold strconv_Itoa.f at h
  split at h
  · rename_i hc
    obtain rfl := Option.some.inj h
    have e : a0 = ((a0.toNat : Nat) : Int) := by omega
    have hb := Tryd.strconv_Itoa_small a0.toNat (by omega) w
    rw [← e] at hb
    exact hb.mono fun e_ w_ ⟨h1, h2⟩ => by subst h2; exact ⟨h1, Drawn0.refl _⟩
  · cases h

/-! ### api_Errno_Error: function 5 -/
def api_Errno_Error.f (a0 : Int) : Option (ByteArray) := (strconv_Itoa.f a0).bind fun t104 => (if 6 + t104.size ≤ 9223372036854775807 then (some ((⟨#[101, 114, 114, 111, 114, 32]⟩ : ByteArray) ++ t104)) else (none))
set_option maxHeartbeats 8000000 in
set_option maxRecDepth 100000 in
theorem api_Errno_Error.calls (a0 : Int) (r : ByteArray) (w : World) (h : api_Errno_Error.f a0 = some r) :
    Calls Tryd.prog 5 #[.int .i64 a0] w fun e w' => e = .returned (.string r) ∧ Drawn0 w w' := by
  have H : ((strconv_Itoa.f a0).bind fun t104 => (if 6 + t104.size ≤ 9223372036854775807 then (some ((⟨#[101, 114, 114, 111, 114, 32]⟩ : ByteArray) ++ t104)) else (none))) = some r := h
  clear h
  replace H := Option.bind_eq_some_iff.mp H
  obtain ⟨t104, A20, H⟩ := H
  replace H : (if 6 + t104.size ≤ 9223372036854775807 then (some ((⟨#[101, 114, 114, 111, 114, 32]⟩ : ByteArray) ++ t104)) else (none)) = some r := H
  have A2 := Aside0.mk A20
  clear A20
  by_cases c3 : 6 + t104.size ≤ 9223372036854775807
  · rw [if_pos c3] at H
    have c3b0 := eq_true c3
    have c3b1 : decide (6 + t104.size ≤ 9223372036854775807) = true := decide_eq_true c3
    try have c3b2 : (9223372036854775807 < 6 + t104.size) = False := eq_false (Nat.not_lt.2 c3)
    obtain rfl := Option.some.inj H
    go_enter Tryd.func5, Tryd.ntmps5
    go_wp2_with (first | ((with_reducible refine gate_callee (f := 6) rfl ?_); refine goesL_ (some 4) rfl rfl Tryd.func6 (by kernel_rfl) rfl #[.int .i64 a0] rfl (by (try simp only [List.map_toArray, List.map_cons, List.map_nil]); first | done | rfl | (simp only [List.length_drop, List.length_take]; rfl)) ?_; (with_reducible refine (strconv_Itoa.calls a0 t104 _ A2.out).mono ?_); rintro e w' ⟨rfl, ⟨nd, rfl⟩⟩; refine ⟨_, rfl, ?_⟩))
    go_ret
    exact ⟨by first | rfl | (simp; done) | (simp [*]; done), by repeat (first | exact Drawn0.refl _ | apply Drawn0.step)⟩
  · rw [if_neg c3] at H
    exact absurd H (by simp)

/-! ### conchlaw0_NamesNumbers: function 3 -/
def conchlaw0_NamesNumbers.l0 : Nat → List (S25) → Int → Option (Bool)
  | 0, _, _ => none
  | k + 1, x1, x2 => if x2 < (x1.length : Int) then (if 0 ≤ x2 then (if ((rd_T25 x1 x2).f0) = ((rd_T25 x1 x2).f1) then (conchlaw0_NamesNumbers.l0 k x1 (wrap64 (x2 + 1))) else (some false)) else (none)) else ((api_Errno_Error.f 17).bind fun t110 => (if t110.toList = ([101, 114, 114, 111, 114, 32, 49, 55] : List UInt8) then ((api_Errno_Error.f 0).bind fun t111 => (some (t111.toList == ([101, 114, 114, 111, 114, 32, 48] : List UInt8)))) else (some false)))
def conchlaw0_NamesNumbers.f (k : Nat)  : Option (Bool) := (conchlaw0_all.f).bind fun t105 => (conchlaw0_NamesNumbers.l0 k t105 0)
theorem conchlaw0_NamesNumbers.mono_l : ∀ k, (∀ y0 y1, LeO (conchlaw0_NamesNumbers.l0 k y0 y1) (conchlaw0_NamesNumbers.l0 (k + 1) y0 y1))
  | 0 => fun _ _ r h => by simp [conchlaw0_NamesNumbers.l0] at h
  | k + 1 => by
    have ih0 := conchlaw0_NamesNumbers.mono_l k
    · intro y0 y1
      unfold conchlaw0_NamesNumbers.l0
      repeat' first
      | (with_reducible exact ih0 _ _)
      | (with_reducible exact LeO.refl _)
      | (with_reducible exact LeO.none _)
      | (with_reducible refine LeO.ite ?_ ?_)
      | (with_reducible refine LeO.bind ?_ (fun _ => ?_))
      | exact ih0 _ _
      | exact LeO.none _
      | refine LeO.ite ?_ ?_
      | refine LeO.bind ?_ (fun _ => ?_)
theorem conchlaw0_NamesNumbers.mono : ∀ k, LeO (conchlaw0_NamesNumbers.f k ) (conchlaw0_NamesNumbers.f (k + 1) ) := by
  intro  k
  have ih0 := conchlaw0_NamesNumbers.mono_l k
  unfold conchlaw0_NamesNumbers.f
  repeat' first
      | (with_reducible exact ih0 _ _)
      | (with_reducible exact LeO.refl _)
      | (with_reducible exact LeO.none _)
      | (with_reducible refine LeO.ite ?_ ?_)
      | (with_reducible refine LeO.bind ?_ (fun _ => ?_))
      | exact ih0 _ _
      | exact LeO.none _
      | refine LeO.ite ?_ ?_
      | refine LeO.bind ?_ (fun _ => ?_)
set_option maxHeartbeats 8000000 in
set_option maxRecDepth 100000 in
theorem conchlaw0_NamesNumbers.calls (k : Nat)  (r : Bool) (w : World) (h : conchlaw0_NamesNumbers.f k  = some r) :
    Calls Tryd.prog 3 #[] w fun e w' => e = .returned (.bool r) ∧ Below w.heap.size w w' := by
  have HB := Aside0.mk (Below.refl w.heap.size w)
  have H : ((conchlaw0_all.f).bind fun t105 => (conchlaw0_NamesNumbers.l0 k t105 0)) = some r := h
  clear h
  replace H := Option.bind_eq_some_iff.mp H
  obtain ⟨t105, A10, H⟩ := H
  replace H : (conchlaw0_NamesNumbers.l0 k t105 0) = some r := H
  have A1 := Aside0.mk A10
  clear A10
  have H' := Aside0.mk H
  clear H
  go_enter Tryd.func3, Tryd.ntmps3
  go_wp2_with (first | (go_at_call 4; (with_reducible refine (conchlaw0_all.calls  t105 _ A1.out).mono ?_); rintro e w2 ⟨v106, rfl, ho0, hb⟩; have n0_ := Aside0.mk (Kd.R_lower ho0 (below_size (by repeat (first | (with_reducible first | exact HB.out | apply below_alloc | apply pw_below_drewN | apply below_drew1) | exact HB.out)))); have n1_ := Aside0.mk (below_step (by repeat (first | (with_reducible first | exact HB.out | apply below_alloc | apply pw_below_drewN | apply below_drew1) | exact HB.out)) hb); clear HB; have HO107 := n0_; have HB := n1_; clear n0_ n1_; (try clear hb); (try clear hb2); (try clear hk); (try clear hi); (try clear ho0)))
  repeat (go_quiet (first | (go_at_call 4; (with_reducible refine (conchlaw0_all.calls  t105 _ A1.out).mono ?_); rintro e w2 ⟨v106, rfl, ho0, hb⟩; have n0_ := Aside0.mk (Kd.R_lower ho0 (below_size (by repeat (first | (with_reducible first | exact HB.out | apply below_alloc | apply pw_below_drewN | apply below_drew1) | exact HB.out)))); have n1_ := Aside0.mk (below_step (by repeat (first | (with_reducible first | exact HB.out | apply below_alloc | apply pw_below_drewN | apply below_drew1) | exact HB.out)) hb); clear HB; have HO107 := n0_; have HB := n1_; clear n0_ n1_; (try clear hb); (try clear hb2); (try clear hk); (try clear hi); (try clear ho0))); try go_wp2_with (first | (go_at_call 4; (with_reducible refine (conchlaw0_all.calls  t105 _ A1.out).mono ?_); rintro e w2 ⟨v106, rfl, ho0, hb⟩; have n0_ := Aside0.mk (Kd.R_lower ho0 (below_size (by repeat (first | (with_reducible first | exact HB.out | apply below_alloc | apply pw_below_drewN | apply below_drew1) | exact HB.out)))); have n1_ := Aside0.mk (below_step (by repeat (first | (with_reducible first | exact HB.out | apply below_alloc | apply pw_below_drewN | apply below_drew1) | exact HB.out)) hb); clear HB; have HO107 := n0_; have HB := n1_; clear n0_ n1_; (try clear hb); (try clear hb2); (try clear hk); (try clear hi); (try clear ho0))))
  go_loopg [2] k (fun kq v2 w' => ∃ (x2_1 : Int), v2 = .int .i64 x2_1 ∧ Aside0 (conchlaw0_NamesNumbers.l0 kq t105 x2_1 = some r) ∧ Aside0 (kq ≤ k) ∧ Aside0 (Kd.R k25 25 w' w.heap.size (fun _ => True) v106 t105) ∧ Aside0 (Below w.heap.size w w'))
  case atStart => exact ⟨(0), (by first | rfl | (simp; done) | (simp [*]; done)), H', ⟨Nat.le_refl _⟩, ⟨by (with_reducible repeat (first | apply Kd.R_alloc | apply Kd.R_drewN | apply Kd.R_drew)); exact HO107.out⟩, ⟨by repeat (first | (with_reducible first | exact HB.out | apply below_alloc | apply pw_below_drewN | apply below_drew1) | exact HB.out)⟩⟩
  case round =>
    clear H'
    try clear p2
    obtain ⟨x2_1, rfl, HA, HK1, HO_1, HB⟩ := hrel
    cases gk with
    | zero => exact absurd HA.out (by simp [conchlaw0_NamesNumbers.l0])
    | succ k1 =>
      have H := HA.out
      clear HA
      simp only [conchlaw0_NamesNumbers.l0] at H
      by_cases c3 : x2_1 < (t105.length : Int)
      · rw [if_pos c3] at H
        have c3b0 : decide (x2_1 < (t105.length : Int)) = true := decide_eq_true c3
        clear c3
        by_cases c4 : 0 ≤ x2_1
        · rw [if_pos c4] at H
          have c4b0 : decide (0 ≤ x2_1) = true := decide_eq_true c4
          clear c4
          by_cases c5 : ((rd_T25 t105 x2_1).f0) = ((rd_T25 t105 x2_1).f1)
          · rw [if_pos c5] at H
            have c5b0 : (((rd_T25 t105 x2_1).f0) == ((rd_T25 t105 x2_1).f1)) = true := beq_iff_eq.mpr c5
            have c5b1 : (((rd_T25 t105 x2_1).f0) != ((rd_T25 t105 x2_1).f1)) = false := bne_eq_false_iff_eq.mpr c5
            clear c5
            have H' := Aside0.mk H
            clear H
            obtain ⟨Ao6, co6, eo6⟩ := Kd.R_slice HO_1.out
            subst eo6
            have p108 : 0 ≤ (x2_1 : Int) := of_decide_eq_true (by first | (with_reducible assumption) | assumption)
            have q108 : x2_1 < (t105.length : Int) := of_decide_eq_true (by first | (with_reducible assumption) | assumption)
            obtain ⟨ad108, e108, hx108_0, hx108_1⟩ := at_T25 (Kd.R_reads' HO_1.out).2.2 x2_1 p108 q108
            cases e108
            replace p108 := eq_true p108
            replace q108 := eq_true q108
            have p109 : 0 ≤ (x2_1 : Int) := of_decide_eq_true (by first | (with_reducible assumption) | assumption)
            have q109 : x2_1 < (t105.length : Int) := of_decide_eq_true (by first | (with_reducible assumption) | assumption)
            obtain ⟨ad109, e109, hx109_0, hx109_1⟩ := at_T25 (Kd.R_reads' HO_1.out).2.2 x2_1 p109 q109
            obtain rfl : ad108 = ad109 := (by injection e109)
            replace p109 := eq_true p109
            replace q109 := eq_true q109
            go_wp2
            repeat (go_quiet (fail); try go_wp2)
            go_roundg k1
            case measure => have := HK1.out; omega
            case rel => exact ⟨(wrap64 (x2_1 + 1)), (by first | rfl | (simp; done) | (simp [*]; done)), H', ⟨by have := HK1.out; omega⟩, ⟨by (with_reducible repeat (first | apply Kd.R_alloc | apply Kd.R_drewN | apply Kd.R_drew)); exact HO_1.out⟩, ⟨by repeat (first | (with_reducible first | exact HB.out | apply below_alloc | apply pw_below_drewN | apply below_drew1) | exact HB.out)⟩⟩
          · rw [if_neg c5] at H
            have c5b0 : (((rd_T25 t105 x2_1).f0) == ((rd_T25 t105 x2_1).f1)) = false := beq_eq_false_iff_ne.mpr c5
            have c5b1 : (((rd_T25 t105 x2_1).f0) != ((rd_T25 t105 x2_1).f1)) = true := bne_iff_ne.mpr c5
            obtain rfl := Option.some.inj H
            obtain ⟨Ao7, co7, eo7⟩ := Kd.R_slice HO_1.out
            subst eo7
            have p108 : 0 ≤ (x2_1 : Int) := of_decide_eq_true (by first | (with_reducible assumption) | assumption)
            have q108 : x2_1 < (t105.length : Int) := of_decide_eq_true (by first | (with_reducible assumption) | assumption)
            obtain ⟨ad108, e108, hx108_0, hx108_1⟩ := at_T25 (Kd.R_reads' HO_1.out).2.2 x2_1 p108 q108
            cases e108
            replace p108 := eq_true p108
            replace q108 := eq_true q108
            have p109 : 0 ≤ (x2_1 : Int) := of_decide_eq_true (by first | (with_reducible assumption) | assumption)
            have q109 : x2_1 < (t105.length : Int) := of_decide_eq_true (by first | (with_reducible assumption) | assumption)
            obtain ⟨ad109, e109, hx109_0, hx109_1⟩ := at_T25 (Kd.R_reads' HO_1.out).2.2 x2_1 p109 q109
            obtain rfl : ad108 = ad109 := (by injection e109)
            replace p109 := eq_true p109
            replace q109 := eq_true q109
            go_wp2
            repeat (go_quiet (fail); try go_wp2)
            go_ret
            exact ⟨by first | rfl | (simp [errW_none, errW_some] <;> rfl) | (simp [*, errW_none, errW_some] <;> rfl), by repeat (first | (with_reducible first | exact HB.out | apply below_alloc | apply pw_below_drewN | apply below_drew1) | exact HB.out)⟩
        · rw [if_neg c4] at H
          exact absurd H (by simp)
      · rw [if_neg c3] at H
        have c3b0 : decide (x2_1 < (t105.length : Int)) = false := decide_eq_false c3
        clear c3
        replace H := Option.bind_eq_some_iff.mp H
        obtain ⟨t110, A80, H⟩ := H
        replace H : (if t110.toList = ([101, 114, 114, 111, 114, 32, 49, 55] : List UInt8) then ((api_Errno_Error.f 0).bind fun t111 => (some (t111.toList == ([101, 114, 114, 111, 114, 32, 48] : List UInt8)))) else (some false)) = some r := H
        have A8 := Aside0.mk A80
        clear A80
        by_cases c9 : t110.toList = ([101, 114, 114, 111, 114, 32, 49, 55] : List UInt8)
        · rw [if_pos c9] at H
          have c9b0 : (t110.toList == ([101, 114, 114, 111, 114, 32, 49, 55] : List UInt8)) = true := beq_iff_eq.mpr c9
          have c9b1 : (t110.toList != ([101, 114, 114, 111, 114, 32, 49, 55] : List UInt8)) = false := bne_eq_false_iff_eq.mpr c9
          clear c9
          replace H := Option.bind_eq_some_iff.mp H
          obtain ⟨t111, A100, H⟩ := H
          replace H : (some (t111.toList == ([101, 114, 114, 111, 114, 32, 48] : List UInt8))) = some r := H
          have A10 := Aside0.mk A100
          clear A100
          obtain rfl := Option.some.inj H
          obtain ⟨Ao11, co11, eo11⟩ := Kd.R_slice HO_1.out
          subst eo11
          go_wp2_with (first | (go_at_call 5; (with_reducible refine (api_Errno_Error.calls 17 t110 _ A8.out).mono ?_); rintro e w' ⟨rfl, ⟨nd, rfl⟩⟩; (try first | exact ⟨rfl, _, World.drewN_drewN _ _ _⟩ | exact ⟨rfl, _, Eq.trans (World.drewN_drewN _ _ _) (congrArg (World.drewN _) (Nat.add_assoc _ _ _))⟩)) | (go_at_call 5; (with_reducible refine (api_Errno_Error.calls 0 t111 _ A10.out).mono ?_); rintro e w' ⟨rfl, ⟨nd, rfl⟩⟩; (try first | exact ⟨rfl, _, World.drewN_drewN _ _ _⟩ | exact ⟨rfl, _, Eq.trans (World.drewN_drewN _ _ _) (congrArg (World.drewN _) (Nat.add_assoc _ _ _))⟩)))
          repeat (go_quiet (first | (go_at_call 5; (with_reducible refine (api_Errno_Error.calls 17 t110 _ A8.out).mono ?_); rintro e w' ⟨rfl, ⟨nd, rfl⟩⟩; (try first | exact ⟨rfl, _, World.drewN_drewN _ _ _⟩ | exact ⟨rfl, _, Eq.trans (World.drewN_drewN _ _ _) (congrArg (World.drewN _) (Nat.add_assoc _ _ _))⟩)) | (go_at_call 5; (with_reducible refine (api_Errno_Error.calls 0 t111 _ A10.out).mono ?_); rintro e w' ⟨rfl, ⟨nd, rfl⟩⟩; (try first | exact ⟨rfl, _, World.drewN_drewN _ _ _⟩ | exact ⟨rfl, _, Eq.trans (World.drewN_drewN _ _ _) (congrArg (World.drewN _) (Nat.add_assoc _ _ _))⟩))); try go_wp2_with (first | (go_at_call 5; (with_reducible refine (api_Errno_Error.calls 17 t110 _ A8.out).mono ?_); rintro e w' ⟨rfl, ⟨nd, rfl⟩⟩; (try first | exact ⟨rfl, _, World.drewN_drewN _ _ _⟩ | exact ⟨rfl, _, Eq.trans (World.drewN_drewN _ _ _) (congrArg (World.drewN _) (Nat.add_assoc _ _ _))⟩)) | (go_at_call 5; (with_reducible refine (api_Errno_Error.calls 0 t111 _ A10.out).mono ?_); rintro e w' ⟨rfl, ⟨nd, rfl⟩⟩; (try first | exact ⟨rfl, _, World.drewN_drewN _ _ _⟩ | exact ⟨rfl, _, Eq.trans (World.drewN_drewN _ _ _) (congrArg (World.drewN _) (Nat.add_assoc _ _ _))⟩))))
          go_ret
          exact ⟨by first | rfl | (simp [errW_none, errW_some] <;> rfl) | (simp [*, errW_none, errW_some] <;> rfl), by repeat (first | (with_reducible first | exact HB.out | apply below_alloc | apply pw_below_drewN | apply below_drew1) | exact HB.out)⟩
        · rw [if_neg c9] at H
          have c9b0 : (t110.toList == ([101, 114, 114, 111, 114, 32, 49, 55] : List UInt8)) = false := beq_eq_false_iff_ne.mpr c9
          have c9b1 : (t110.toList != ([101, 114, 114, 111, 114, 32, 49, 55] : List UInt8)) = true := bne_iff_ne.mpr c9
          obtain rfl := Option.some.inj H
          obtain ⟨Ao12, co12, eo12⟩ := Kd.R_slice HO_1.out
          subst eo12
          go_wp2_with (first | (go_at_call 5; (with_reducible refine (api_Errno_Error.calls 17 t110 _ A8.out).mono ?_); rintro e w' ⟨rfl, ⟨nd, rfl⟩⟩; (try first | exact ⟨rfl, _, World.drewN_drewN _ _ _⟩ | exact ⟨rfl, _, Eq.trans (World.drewN_drewN _ _ _) (congrArg (World.drewN _) (Nat.add_assoc _ _ _))⟩)))
          repeat (go_quiet (first | (go_at_call 5; (with_reducible refine (api_Errno_Error.calls 17 t110 _ A8.out).mono ?_); rintro e w' ⟨rfl, ⟨nd, rfl⟩⟩; (try first | exact ⟨rfl, _, World.drewN_drewN _ _ _⟩ | exact ⟨rfl, _, Eq.trans (World.drewN_drewN _ _ _) (congrArg (World.drewN _) (Nat.add_assoc _ _ _))⟩))); try go_wp2_with (first | (go_at_call 5; (with_reducible refine (api_Errno_Error.calls 17 t110 _ A8.out).mono ?_); rintro e w' ⟨rfl, ⟨nd, rfl⟩⟩; (try first | exact ⟨rfl, _, World.drewN_drewN _ _ _⟩ | exact ⟨rfl, _, Eq.trans (World.drewN_drewN _ _ _) (congrArg (World.drewN _) (Nat.add_assoc _ _ _))⟩))))
          go_ret
          exact ⟨by first | rfl | (simp [errW_none, errW_some] <;> rfl) | (simp [*, errW_none, errW_some] <;> rfl), by repeat (first | (with_reducible first | exact HB.out | apply below_alloc | apply pw_below_drewN | apply below_drew1) | exact HB.out)⟩

/-- THE ONE PURE STATEMENT of conchlaw0_NamesNumbers: yours. -/
def conchlaw0_NamesNumbers.Pure : Prop := ∃ k, conchlaw0_NamesNumbers.f k  = some true
theorem conchlaw0_NamesNumbers.walk (P : conchlaw0_NamesNumbers.Pure)  (w : World)  :
    Calls Tryd.prog 3 #[] w fun e w' => e = .returned (.bool true) ∧ Below w.heap.size w w' := by
  obtain ⟨k, h⟩ := P  
  refine (conchlaw0_NamesNumbers.calls k  true w h).mono ?_
  rintro e w' ⟨rfl, hd⟩
  exact ⟨rfl, hd⟩

end Go.Proofs.YthommgjnljpkjaaDoor.PAll
