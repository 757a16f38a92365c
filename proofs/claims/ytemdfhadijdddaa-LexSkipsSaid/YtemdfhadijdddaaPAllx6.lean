-- Written by a program of this work (wip/tools/gprint.py).
import Derived.Test.YtemdfhadijdddaaPAllx0
import Derived.Test.YtemdfhadijdddaaPAllx1
import Derived.Test.YtemdfhadijdddaaPAllx2
namespace Go.Proofs.Ytemdfhadijdddaa.PAll
open Go.RowKit Go.Proofs.YtemdfhadijdddaaW.PrintWords Go.Proofs.YtemdfhadijdddaaW.PrintLast Go.Proofs.YtemdfhadijdddaaW.PrintMore
attribute [local go_sem] max2_int min2_int max_two min_two max_three min_three max_four min_four   -- for this text's walks alone
set_option linter.unusedVariables false
set_option linter.unusedSimpArgs false

/-! ### conchlaw9_LexOps: function 5 -/
def conchlaw9_LexOps.l0 : Nat → ByteArray → List ByteArray → ByteArray → ByteArray → Bool → Bool → Int → Option (Bool)
  | 0, _, _, _, _, _, _, _ => none
  | k + 1, x1, x5, x6, x7, x8, x9, x10 => if x10 < (x5.length : Int) then (if x9 = true then (conchlaw9_LexOps.l0 k x1 x5 x6 x7 x8 true (wrap64 (x10 + 1))) else (if 0 ≤ x10 then (if ((rdOf ByteArray.empty x5 x10).size : Int) > (x6.size : Int) then (if x6.size + x1.size ≤ 9223372036854775807 then (if ((x6 ++ x1).size : Int) ≥ ((rdOf ByteArray.empty x5 x10).size : Int) then (if 0 ≤ ((rdOf ByteArray.empty x5 x10).size : Int) then (if ((rdOf ByteArray.empty x5 x10).size : Int) ≤ ((x6 ++ x1).size : Int) then (conchlaw9_LexOps.l0 k x1 x5 x6 x7 x8 (((x6 ++ x1).extract 0 (((rdOf ByteArray.empty x5 x10).size : Int) : Int).toNat).toList == (rdOf ByteArray.empty x5 x10).toList) (wrap64 (x10 + 1))) else (none)) else (none)) else (conchlaw9_LexOps.l0 k x1 x5 x6 x7 x8 false (wrap64 (x10 + 1)))) else (none)) else (conchlaw9_LexOps.l0 k x1 x5 x6 x7 x8 false (wrap64 (x10 + 1)))) else (none))) else (if 2 + x6.size ≤ 9223372036854775807 then ((lex_Op.f k ((⟨#[97, 98]⟩ : ByteArray) ++ x6) 1).bind fun bt177 => (if x8 = true then (if ((x7.toList == x6.toList) == (!x9)) = true then (if (x7.size : Int) ≥ (x6.size : Int) then (if bt177.2 = true then (some false) else (if 0 < (x6.size : Int) then ((lex_Ends.f (bt x6 0)).bind fun t179 => (if t179 = true then ((conchlaw9_awake.f k).bind fun t180 => (some t180)) else (some false))) else (none))) else (some false)) else (some false)) else (some false))) else (none))
def conchlaw9_LexOps.f (k : Nat) (a0 : Int) (a1 : ByteArray) : Option (Bool) := if (a1.size : Int) > 100 then ((conchlaw9_awake.f k).bind fun t166 => (some t166)) else ((some (([(⟨#[59, 59]⟩ : ByteArray), (⟨#[38, 38]⟩ : ByteArray), (⟨#[124, 124]⟩ : ByteArray), (⟨#[59]⟩ : ByteArray), (⟨#[124]⟩ : ByteArray), (⟨#[38]⟩ : ByteArray), (⟨#[40]⟩ : ByteArray), (⟨#[41]⟩ : ByteArray), (⟨#[60]⟩ : ByteArray), (⟨#[62]⟩ : ByteArray), (⟨#[62, 62]⟩ : ByteArray), (⟨#[60, 60]⟩ : ByteArray), (⟨#[60, 38]⟩ : ByteArray), (⟨#[62, 38]⟩ : ByteArray), (⟨#[60, 62]⟩ : ByteArray), (⟨#[62, 124]⟩ : ByteArray), (⟨#[10]⟩ : ByteArray)] : List ByteArray) : List ByteArray)).bind fun y167 => (if (y167.length : Int) = 0 then (none) else (if 0 ≤ (Int.tmod (Go.bits .and .i64 a0 255) (y167.length : Int)) then (if (Int.tmod (Go.bits .and .i64 a0 255) (y167.length : Int)) < (y167.length : Int) then (if 2 + (rdOf ByteArray.empty y167 (Int.tmod (Go.bits .and .i64 a0 255) (y167.length : Int))).size ≤ 9223372036854775807 then (if ((⟨#[97, 98]⟩ : ByteArray) ++ (rdOf ByteArray.empty y167 (Int.tmod (Go.bits .and .i64 a0 255) (y167.length : Int)))).size + a1.size ≤ 9223372036854775807 then ((lex_Op.f k (((⟨#[97, 98]⟩ : ByteArray) ++ (rdOf ByteArray.empty y167 (Int.tmod (Go.bits .and .i64 a0 255) (y167.length : Int)))) ++ a1) 2).bind fun bt171 => (conchlaw9_LexOps.l0 k a1 y167 (rdOf ByteArray.empty y167 (Int.tmod (Go.bits .and .i64 a0 255) (y167.length : Int))) bt171.1 bt171.2 false 0)) else (none)) else (none)) else (none)) else (none))))
theorem conchlaw9_LexOps.mono_l : ∀ k, (∀ y0 y1 y2 y3 y4 y5 y6, LeO (conchlaw9_LexOps.l0 k y0 y1 y2 y3 y4 y5 y6) (conchlaw9_LexOps.l0 (k + 1) y0 y1 y2 y3 y4 y5 y6))
  | 0 => fun _ _ _ _ _ _ _ r h => by simp [conchlaw9_LexOps.l0] at h
  | k + 1 => by
    have ih0 := conchlaw9_LexOps.mono_l k
    · intro y0 y1 y2 y3 y4 y5 y6
      unfold conchlaw9_LexOps.l0
      repeat' first
      | (with_reducible exact ih0 _ _ _ _ _ _ _)
      | (with_reducible exact conchlaw9_awake.mono _)
      | (with_reducible exact lex_Op.mono _ _ _)
      | (with_reducible exact LeO.refl _)
      | (with_reducible exact LeO.none _)
      | (with_reducible refine LeO.ite ?_ ?_)
      | (with_reducible refine LeO.bind ?_ (fun _ => ?_))
      | exact ih0 _ _ _ _ _ _ _
      | exact conchlaw9_awake.mono _
      | exact lex_Op.mono _ _ _
      | exact LeO.none _
      | refine LeO.ite ?_ ?_
      | refine LeO.bind ?_ (fun _ => ?_)
theorem conchlaw9_LexOps.mono : ∀ a0 a1 k, LeO (conchlaw9_LexOps.f k a0 a1) (conchlaw9_LexOps.f (k + 1) a0 a1) := by
  intro a0 a1 k
  have ih0 := conchlaw9_LexOps.mono_l k
  unfold conchlaw9_LexOps.f
  repeat' first
      | (with_reducible exact ih0 _ _ _ _ _ _ _)
      | (with_reducible exact conchlaw9_awake.mono _)
      | (with_reducible exact lex_Op.mono _ _ _)
      | (with_reducible exact LeO.refl _)
      | (with_reducible exact LeO.none _)
      | (with_reducible refine LeO.ite ?_ ?_)
      | (with_reducible refine LeO.bind ?_ (fun _ => ?_))
      | exact ih0 _ _ _ _ _ _ _
      | exact conchlaw9_awake.mono _
      | exact lex_Op.mono _ _ _
      | exact LeO.none _
      | refine LeO.ite ?_ ?_
      | refine LeO.bind ?_ (fun _ => ?_)
set_option maxHeartbeats 8000000 in
set_option maxRecDepth 100000 in
theorem conchlaw9_LexOps.calls (k : Nat) (a0 : Int) (a1 : ByteArray) (r : Bool) (w : World) (h : conchlaw9_LexOps.f k a0 a1 = some r) :
    Calls Try.prog 5 #[.int .i64 a0, .string a1] w fun e w' => e = .returned (.bool r) ∧ Below w.heap.size w w' := by
  have HB := Aside0.mk (Below.refl w.heap.size w)
  have H : (if (a1.size : Int) > 100 then ((conchlaw9_awake.f k).bind fun t166 => (some t166)) else ((some (([(⟨#[59, 59]⟩ : ByteArray), (⟨#[38, 38]⟩ : ByteArray), (⟨#[124, 124]⟩ : ByteArray), (⟨#[59]⟩ : ByteArray), (⟨#[124]⟩ : ByteArray), (⟨#[38]⟩ : ByteArray), (⟨#[40]⟩ : ByteArray), (⟨#[41]⟩ : ByteArray), (⟨#[60]⟩ : ByteArray), (⟨#[62]⟩ : ByteArray), (⟨#[62, 62]⟩ : ByteArray), (⟨#[60, 60]⟩ : ByteArray), (⟨#[60, 38]⟩ : ByteArray), (⟨#[62, 38]⟩ : ByteArray), (⟨#[60, 62]⟩ : ByteArray), (⟨#[62, 124]⟩ : ByteArray), (⟨#[10]⟩ : ByteArray)] : List ByteArray) : List ByteArray)).bind fun y167 => (if (y167.length : Int) = 0 then (none) else (if 0 ≤ (Int.tmod (Go.bits .and .i64 a0 255) (y167.length : Int)) then (if (Int.tmod (Go.bits .and .i64 a0 255) (y167.length : Int)) < (y167.length : Int) then (if 2 + (rdOf ByteArray.empty y167 (Int.tmod (Go.bits .and .i64 a0 255) (y167.length : Int))).size ≤ 9223372036854775807 then (if ((⟨#[97, 98]⟩ : ByteArray) ++ (rdOf ByteArray.empty y167 (Int.tmod (Go.bits .and .i64 a0 255) (y167.length : Int)))).size + a1.size ≤ 9223372036854775807 then ((lex_Op.f k (((⟨#[97, 98]⟩ : ByteArray) ++ (rdOf ByteArray.empty y167 (Int.tmod (Go.bits .and .i64 a0 255) (y167.length : Int)))) ++ a1) 2).bind fun bt171 => (conchlaw9_LexOps.l0 k a1 y167 (rdOf ByteArray.empty y167 (Int.tmod (Go.bits .and .i64 a0 255) (y167.length : Int))) bt171.1 bt171.2 false 0)) else (none)) else (none)) else (none)) else (none))))) = some r := h
  clear h
  by_cases c3 : (a1.size : Int) > 100
  · rw [if_pos c3] at H
    have c3b0 : decide (100 < (a1.size : Int)) = true := decide_eq_true c3
    have c3b1 : decide (100 < a1.size) = true := decide_eq_true (by omega)
    clear c3
    replace H := Option.bind_eq_some_iff.mp H
    obtain ⟨t166, A40, H⟩ := H
    replace H : (some t166) = some r := H
    have A4 := Aside0.mk A40
    clear A40
    obtain rfl := Option.some.inj H
    go_enter Try.func5, Try.ntmps5
    go_wp2_with (first | (go_at_call 10; (with_reducible refine (conchlaw9_awake.calls k  t166 _ A4.out).mono ?_); rintro e w5 ⟨rfl, hb⟩; have n0_ := Aside0.mk (below_step (by repeat (first | (with_reducible first | exact HB.out | apply below_alloc | apply pw_below_drewN | apply below_drew1) | exact HB.out)) hb); clear HB; have HB := n0_; clear n0_; (try clear hb); (try clear hb2); (try clear hk); (try clear hi)))
    repeat (go_quiet (first | (go_at_call 10; (with_reducible refine (conchlaw9_awake.calls k  t166 _ A4.out).mono ?_); rintro e w5 ⟨rfl, hb⟩; have n0_ := Aside0.mk (below_step (by repeat (first | (with_reducible first | exact HB.out | apply below_alloc | apply pw_below_drewN | apply below_drew1) | exact HB.out)) hb); clear HB; have HB := n0_; clear n0_; (try clear hb); (try clear hb2); (try clear hk); (try clear hi))); try go_wp2_with (first | (go_at_call 10; (with_reducible refine (conchlaw9_awake.calls k  t166 _ A4.out).mono ?_); rintro e w5 ⟨rfl, hb⟩; have n0_ := Aside0.mk (below_step (by repeat (first | (with_reducible first | exact HB.out | apply below_alloc | apply pw_below_drewN | apply below_drew1) | exact HB.out)) hb); clear HB; have HB := n0_; clear n0_; (try clear hb); (try clear hb2); (try clear hk); (try clear hi))))
    go_ret
    exact ⟨by first | rfl | (simp [errW_none, errW_some] <;> rfl) | (simp [*, errW_none, errW_some] <;> rfl), by repeat (first | (with_reducible first | exact HB.out | apply below_alloc | apply pw_below_drewN | apply below_drew1) | exact HB.out)⟩
  · rw [if_neg c3] at H
    have c3b0 : decide (100 < (a1.size : Int)) = false := decide_eq_false c3
    have c3b1 : decide (100 < a1.size) = false := decide_eq_false (by omega)
    clear c3
    obtain ⟨y167, hy167⟩ : ∃ y_ : List ByteArray, y_ = (([(⟨#[59, 59]⟩ : ByteArray), (⟨#[38, 38]⟩ : ByteArray), (⟨#[124, 124]⟩ : ByteArray), (⟨#[59]⟩ : ByteArray), (⟨#[124]⟩ : ByteArray), (⟨#[38]⟩ : ByteArray), (⟨#[40]⟩ : ByteArray), (⟨#[41]⟩ : ByteArray), (⟨#[60]⟩ : ByteArray), (⟨#[62]⟩ : ByteArray), (⟨#[62, 62]⟩ : ByteArray), (⟨#[60, 60]⟩ : ByteArray), (⟨#[60, 38]⟩ : ByteArray), (⟨#[62, 38]⟩ : ByteArray), (⟨#[60, 62]⟩ : ByteArray), (⟨#[62, 124]⟩ : ByteArray), (⟨#[10]⟩ : ByteArray)] : List ByteArray)) := ⟨_, rfl⟩
    replace H : (if (y167.length : Int) = 0 then (none) else (if 0 ≤ (Int.tmod (Go.bits .and .i64 a0 255) (y167.length : Int)) then (if (Int.tmod (Go.bits .and .i64 a0 255) (y167.length : Int)) < (y167.length : Int) then (if 2 + (rdOf ByteArray.empty y167 (Int.tmod (Go.bits .and .i64 a0 255) (y167.length : Int))).size ≤ 9223372036854775807 then (if ((⟨#[97, 98]⟩ : ByteArray) ++ (rdOf ByteArray.empty y167 (Int.tmod (Go.bits .and .i64 a0 255) (y167.length : Int)))).size + a1.size ≤ 9223372036854775807 then ((lex_Op.f k (((⟨#[97, 98]⟩ : ByteArray) ++ (rdOf ByteArray.empty y167 (Int.tmod (Go.bits .and .i64 a0 255) (y167.length : Int)))) ++ a1) 2).bind fun bt171 => (conchlaw9_LexOps.l0 k a1 y167 (rdOf ByteArray.empty y167 (Int.tmod (Go.bits .and .i64 a0 255) (y167.length : Int))) bt171.1 bt171.2 false 0)) else (none)) else (none)) else (none)) else (none))) = some r := by first | (rw [hy167]; with_reducible exact H) | (have H2_ := (Option.bind_some _ _).symm.trans H; rw [hy167]; with_reducible exact H2_) | (have H2_ := (Option.bind_some _ _).symm.trans H; with_reducible exact H2_) | with_reducible exact H | (rw [hy167]; exact H) | exact H
    have Ny167 := Aside0.mk hy167
    clear hy167
    by_cases c6 : (y167.length : Int) = 0
    · rw [if_pos c6] at H
      exact absurd H (by simp)
    · rw [if_neg c6] at H
      have c6b0 : ((y167.length : Int) == 0) = false := beq_eq_false_iff_ne.mpr c6
      have c6b1 : ((y167.length : Int) != 0) = true := bne_iff_ne.mpr c6
      have c6b2 : ¬ (y167 = []) := fun h_ => c6 (by rw [h_]; rfl)
      obtain ⟨ji7, hji7⟩ : ∃ j_ : Int, (Int.tmod (Go.bits .and .i64 a0 255) (y167.length : Int)) = j_ := ⟨_, rfl⟩
      replace H : (if 0 ≤ (ji7) then (if (ji7) < (y167.length : Int) then (if 2 + (rdOf ByteArray.empty y167 (ji7)).size ≤ 9223372036854775807 then (if ((⟨#[97, 98]⟩ : ByteArray) ++ (rdOf ByteArray.empty y167 (ji7))).size + a1.size ≤ 9223372036854775807 then ((lex_Op.f k (((⟨#[97, 98]⟩ : ByteArray) ++ (rdOf ByteArray.empty y167 (ji7))) ++ a1) 2).bind fun bt171 => (conchlaw9_LexOps.l0 k a1 y167 (rdOf ByteArray.empty y167 (ji7)) bt171.1 bt171.2 false 0)) else (none)) else (none)) else (none)) else (none)) = some r := by first | (rw [hji7] at H; exact H) | (simp only [hji7] at H ⊢; exact H)
      by_cases c8 : 0 ≤ (ji7)
      · rw [if_pos c8] at H
        have c8b0 : decide (0 ≤ (ji7)) = true := decide_eq_true c8
        clear c8
        by_cases c9 : (ji7) < (y167.length : Int)
        · rw [if_pos c9] at H
          have c9b0 : decide ((ji7) < (y167.length : Int)) = true := decide_eq_true c9
          clear c9
          by_cases c10 : 2 + (rdOf ByteArray.empty y167 (ji7)).size ≤ 9223372036854775807
          · rw [if_pos c10] at H
            have c10b0 := eq_true c10
            have c10b1 : decide (2 + (rdOf ByteArray.empty y167 (ji7)).size ≤ 9223372036854775807) = true := decide_eq_true c10
            try have c10b2 : (9223372036854775807 < 2 + (rdOf ByteArray.empty y167 (ji7)).size) = False := eq_false (Nat.not_lt.2 c10)
            by_cases c11 : ((⟨#[97, 98]⟩ : ByteArray) ++ (rdOf ByteArray.empty y167 (ji7))).size + a1.size ≤ 9223372036854775807
            · rw [if_pos c11] at H
              have c11b0 := eq_true c11
              have c11b1 : decide (((⟨#[97, 98]⟩ : ByteArray) ++ (rdOf ByteArray.empty y167 (ji7))).size + a1.size ≤ 9223372036854775807) = true := decide_eq_true c11
              try (have c11b1a := c11b1; simp only [ByteArray.size_append] at c11b1a)
              try (have c11b1i := c11b1; simp only [ByteArray.size_append, Int.natCast_add] at c11b1i)
              try have c11b2 : (9223372036854775807 < ((⟨#[97, 98]⟩ : ByteArray) ++ (rdOf ByteArray.empty y167 (ji7))).size + a1.size) = False := eq_false (Nat.not_lt.2 c11)
              try (have c11b2a := c11b2; simp only [ByteArray.size_append] at c11b2a)
              try (have c11b2i := c11b2; simp only [ByteArray.size_append, Int.natCast_add] at c11b2i)
              try have c11b9 : (9223372036854775807 < 2 + (rdOf ByteArray.empty y167 (ji7)).size + a1.size) = False := eq_false (by have h_ := c11; simp only [ByteArray.size_append, ByteArray.size_extract, Nat.min_self] at h_; first | omega | (simp at h_; omega))
              replace H := Option.bind_eq_some_iff.mp H
              obtain ⟨⟨t171, t172⟩, A120, H⟩ := H
              replace H : (conchlaw9_LexOps.l0 k a1 y167 (rdOf ByteArray.empty y167 (ji7)) t171 t172 false 0) = some r := H
              have A12 := Aside0.mk A120
              clear A120
              have H' := Aside0.mk H
              clear H
              go_enter Try.func5, Try.ntmps5
              go_wp2_with (first | ((with_reducible refine gate_dst (N := 17) rfl ?_); (try (refine gate_guard (by rfl) ?_; dsimp only)); refine Kd.R_lit Kd.string _ 9 ?hg (N := 17) ?hd (xs := ([(⟨#[59, 59]⟩ : ByteArray), (⟨#[38, 38]⟩ : ByteArray), (⟨#[124, 124]⟩ : ByteArray), (⟨#[59]⟩ : ByteArray), (⟨#[124]⟩ : ByteArray), (⟨#[38]⟩ : ByteArray), (⟨#[40]⟩ : ByteArray), (⟨#[41]⟩ : ByteArray), (⟨#[60]⟩ : ByteArray), (⟨#[62]⟩ : ByteArray), (⟨#[62, 62]⟩ : ByteArray), (⟨#[60, 60]⟩ : ByteArray), (⟨#[60, 38]⟩ : ByteArray), (⟨#[62, 38]⟩ : ByteArray), (⟨#[60, 62]⟩ : ByteArray), (⟨#[62, 124]⟩ : ByteArray), (⟨#[10]⟩ : ByteArray)] : List ByteArray)) (inner := [.string (⟨#[59, 59]⟩ : ByteArray), .string (⟨#[38, 38]⟩ : ByteArray), .string (⟨#[124, 124]⟩ : ByteArray), .string (⟨#[59]⟩ : ByteArray), .string (⟨#[124]⟩ : ByteArray), .string (⟨#[38]⟩ : ByteArray), .string (⟨#[40]⟩ : ByteArray), .string (⟨#[41]⟩ : ByteArray), .string (⟨#[60]⟩ : ByteArray), .string (⟨#[62]⟩ : ByteArray), .string (⟨#[62, 62]⟩ : ByteArray), .string (⟨#[60, 60]⟩ : ByteArray), .string (⟨#[60, 38]⟩ : ByteArray), .string (⟨#[62, 38]⟩ : ByteArray), .string (⟨#[60, 62]⟩ : ByteArray), .string (⟨#[62, 124]⟩ : ByteArray), .string (⟨#[10]⟩ : ByteArray)]) (ok := fun _ => True) (okp := fun _ => True) ?hr ?hp (fun _ hk => hk) trivial (Below.refl _ _) (Nat.le_refl _) (by simp) ?_; (case hd => rfl); (case hg => rfl); (case hr => first | (go_simp; done) | (go_simp; rfl)); (case hp => exact (Reps.one (show Kd.M Kd.string _ _ _ (⟨#[59, 59]⟩ : ByteArray) [.string (⟨#[59, 59]⟩ : ByteArray)] from rfl) (Reps.one (show Kd.M Kd.string _ _ _ (⟨#[38, 38]⟩ : ByteArray) [.string (⟨#[38, 38]⟩ : ByteArray)] from rfl) (Reps.one (show Kd.M Kd.string _ _ _ (⟨#[124, 124]⟩ : ByteArray) [.string (⟨#[124, 124]⟩ : ByteArray)] from rfl) (Reps.one (show Kd.M Kd.string _ _ _ (⟨#[59]⟩ : ByteArray) [.string (⟨#[59]⟩ : ByteArray)] from rfl) (Reps.one (show Kd.M Kd.string _ _ _ (⟨#[124]⟩ : ByteArray) [.string (⟨#[124]⟩ : ByteArray)] from rfl) (Reps.one (show Kd.M Kd.string _ _ _ (⟨#[38]⟩ : ByteArray) [.string (⟨#[38]⟩ : ByteArray)] from rfl) (Reps.one (show Kd.M Kd.string _ _ _ (⟨#[40]⟩ : ByteArray) [.string (⟨#[40]⟩ : ByteArray)] from rfl) (Reps.one (show Kd.M Kd.string _ _ _ (⟨#[41]⟩ : ByteArray) [.string (⟨#[41]⟩ : ByteArray)] from rfl) (Reps.one (show Kd.M Kd.string _ _ _ (⟨#[60]⟩ : ByteArray) [.string (⟨#[60]⟩ : ByteArray)] from rfl) (Reps.one (show Kd.M Kd.string _ _ _ (⟨#[62]⟩ : ByteArray) [.string (⟨#[62]⟩ : ByteArray)] from rfl) (Reps.one (show Kd.M Kd.string _ _ _ (⟨#[62, 62]⟩ : ByteArray) [.string (⟨#[62, 62]⟩ : ByteArray)] from rfl) (Reps.one (show Kd.M Kd.string _ _ _ (⟨#[60, 60]⟩ : ByteArray) [.string (⟨#[60, 60]⟩ : ByteArray)] from rfl) (Reps.one (show Kd.M Kd.string _ _ _ (⟨#[60, 38]⟩ : ByteArray) [.string (⟨#[60, 38]⟩ : ByteArray)] from rfl) (Reps.one (show Kd.M Kd.string _ _ _ (⟨#[62, 38]⟩ : ByteArray) [.string (⟨#[62, 38]⟩ : ByteArray)] from rfl) (Reps.one (show Kd.M Kd.string _ _ _ (⟨#[60, 62]⟩ : ByteArray) [.string (⟨#[60, 62]⟩ : ByteArray)] from rfl) (Reps.one (show Kd.M Kd.string _ _ _ (⟨#[62, 124]⟩ : ByteArray) [.string (⟨#[62, 124]⟩ : ByteArray)] from rfl) (Reps.one (show Kd.M Kd.string _ _ _ (⟨#[10]⟩ : ByteArray) [.string (⟨#[10]⟩ : ByteArray)] from rfl) (Reps.none _ _))))))))))))))))))); intro v168 w13 ho14 hb hg_ hnew_; clear hg_ hnew_; (first | rw [← Ny167.out] at ho14 | (simp only [Int.reduceToNat] at ho14; rw [← Ny167.out] at ho14)); have n0_ := Aside0.mk (Kd.R_lower ho14 (below_size (by repeat (first | (with_reducible first | exact HB.out | apply below_alloc | apply pw_below_drewN | apply below_drew1) | exact HB.out)))); have n1_ := Aside0.mk (below_step (by repeat (first | (with_reducible first | exact HB.out | apply below_alloc | apply pw_below_drewN | apply below_drew1) | exact HB.out)) hb); clear HB; have HO169 := n0_; have HB := n1_; clear n0_ n1_; clear hb ho14; obtain ⟨Ao15, co15, eo15⟩ := Kd.R_slice HO169.out; subst eo15; have p170 : 0 ≤ ((ji7) : Int) := of_decide_eq_true (by first | (with_reducible assumption) | assumption); have q170 : (ji7) < (y167.length : Int) := of_decide_eq_true (by first | (with_reducible assumption) | assumption); obtain ⟨ad170, e170, hx170_0⟩ := Kd.at_string (Kd.R_reads' HO169.out).2.2 (ji7) p170 q170; cases e170; replace p170 := eq_true p170; replace q170 := eq_true q170) | (go_at_call 8; (with_reducible refine (lex_Op.calls k (((⟨#[97, 98]⟩ : ByteArray) ++ (rdOf ByteArray.empty y167 (ji7))) ++ a1) 2 t171 t172 _ A12.out).mono ?_); rintro e w16 ⟨rfl, hb⟩; have n0_ := Aside0.mk (Kd.R_below (by (with_reducible repeat (first | apply Kd.R_alloc | apply Kd.R_drewN | apply Kd.R_drew)); exact HO169.out) hb); have n1_ := Aside0.mk (below_step (by repeat (first | (with_reducible first | exact HB.out | apply below_alloc | apply pw_below_drewN | apply below_drew1) | exact HB.out)) hb); clear HO169; clear HB; have HO169 := n0_; have HB := n1_; clear n0_ n1_; (try clear hb); (try clear hb2); (try clear hk); (try clear hi)))
              repeat (go_quiet (first | ((with_reducible refine gate_dst (N := 17) rfl ?_); (try (refine gate_guard (by rfl) ?_; dsimp only)); refine Kd.R_lit Kd.string _ 9 ?hg (N := 17) ?hd (xs := ([(⟨#[59, 59]⟩ : ByteArray), (⟨#[38, 38]⟩ : ByteArray), (⟨#[124, 124]⟩ : ByteArray), (⟨#[59]⟩ : ByteArray), (⟨#[124]⟩ : ByteArray), (⟨#[38]⟩ : ByteArray), (⟨#[40]⟩ : ByteArray), (⟨#[41]⟩ : ByteArray), (⟨#[60]⟩ : ByteArray), (⟨#[62]⟩ : ByteArray), (⟨#[62, 62]⟩ : ByteArray), (⟨#[60, 60]⟩ : ByteArray), (⟨#[60, 38]⟩ : ByteArray), (⟨#[62, 38]⟩ : ByteArray), (⟨#[60, 62]⟩ : ByteArray), (⟨#[62, 124]⟩ : ByteArray), (⟨#[10]⟩ : ByteArray)] : List ByteArray)) (inner := [.string (⟨#[59, 59]⟩ : ByteArray), .string (⟨#[38, 38]⟩ : ByteArray), .string (⟨#[124, 124]⟩ : ByteArray), .string (⟨#[59]⟩ : ByteArray), .string (⟨#[124]⟩ : ByteArray), .string (⟨#[38]⟩ : ByteArray), .string (⟨#[40]⟩ : ByteArray), .string (⟨#[41]⟩ : ByteArray), .string (⟨#[60]⟩ : ByteArray), .string (⟨#[62]⟩ : ByteArray), .string (⟨#[62, 62]⟩ : ByteArray), .string (⟨#[60, 60]⟩ : ByteArray), .string (⟨#[60, 38]⟩ : ByteArray), .string (⟨#[62, 38]⟩ : ByteArray), .string (⟨#[60, 62]⟩ : ByteArray), .string (⟨#[62, 124]⟩ : ByteArray), .string (⟨#[10]⟩ : ByteArray)]) (ok := fun _ => True) (okp := fun _ => True) ?hr ?hp (fun _ hk => hk) trivial (Below.refl _ _) (Nat.le_refl _) (by simp) ?_; (case hd => rfl); (case hg => rfl); (case hr => first | (go_simp; done) | (go_simp; rfl)); (case hp => exact (Reps.one (show Kd.M Kd.string _ _ _ (⟨#[59, 59]⟩ : ByteArray) [.string (⟨#[59, 59]⟩ : ByteArray)] from rfl) (Reps.one (show Kd.M Kd.string _ _ _ (⟨#[38, 38]⟩ : ByteArray) [.string (⟨#[38, 38]⟩ : ByteArray)] from rfl) (Reps.one (show Kd.M Kd.string _ _ _ (⟨#[124, 124]⟩ : ByteArray) [.string (⟨#[124, 124]⟩ : ByteArray)] from rfl) (Reps.one (show Kd.M Kd.string _ _ _ (⟨#[59]⟩ : ByteArray) [.string (⟨#[59]⟩ : ByteArray)] from rfl) (Reps.one (show Kd.M Kd.string _ _ _ (⟨#[124]⟩ : ByteArray) [.string (⟨#[124]⟩ : ByteArray)] from rfl) (Reps.one (show Kd.M Kd.string _ _ _ (⟨#[38]⟩ : ByteArray) [.string (⟨#[38]⟩ : ByteArray)] from rfl) (Reps.one (show Kd.M Kd.string _ _ _ (⟨#[40]⟩ : ByteArray) [.string (⟨#[40]⟩ : ByteArray)] from rfl) (Reps.one (show Kd.M Kd.string _ _ _ (⟨#[41]⟩ : ByteArray) [.string (⟨#[41]⟩ : ByteArray)] from rfl) (Reps.one (show Kd.M Kd.string _ _ _ (⟨#[60]⟩ : ByteArray) [.string (⟨#[60]⟩ : ByteArray)] from rfl) (Reps.one (show Kd.M Kd.string _ _ _ (⟨#[62]⟩ : ByteArray) [.string (⟨#[62]⟩ : ByteArray)] from rfl) (Reps.one (show Kd.M Kd.string _ _ _ (⟨#[62, 62]⟩ : ByteArray) [.string (⟨#[62, 62]⟩ : ByteArray)] from rfl) (Reps.one (show Kd.M Kd.string _ _ _ (⟨#[60, 60]⟩ : ByteArray) [.string (⟨#[60, 60]⟩ : ByteArray)] from rfl) (Reps.one (show Kd.M Kd.string _ _ _ (⟨#[60, 38]⟩ : ByteArray) [.string (⟨#[60, 38]⟩ : ByteArray)] from rfl) (Reps.one (show Kd.M Kd.string _ _ _ (⟨#[62, 38]⟩ : ByteArray) [.string (⟨#[62, 38]⟩ : ByteArray)] from rfl) (Reps.one (show Kd.M Kd.string _ _ _ (⟨#[60, 62]⟩ : ByteArray) [.string (⟨#[60, 62]⟩ : ByteArray)] from rfl) (Reps.one (show Kd.M Kd.string _ _ _ (⟨#[62, 124]⟩ : ByteArray) [.string (⟨#[62, 124]⟩ : ByteArray)] from rfl) (Reps.one (show Kd.M Kd.string _ _ _ (⟨#[10]⟩ : ByteArray) [.string (⟨#[10]⟩ : ByteArray)] from rfl) (Reps.none _ _))))))))))))))))))); intro v168 w13 ho14 hb hg_ hnew_; clear hg_ hnew_; (first | rw [← Ny167.out] at ho14 | (simp only [Int.reduceToNat] at ho14; rw [← Ny167.out] at ho14)); have n0_ := Aside0.mk (Kd.R_lower ho14 (below_size (by repeat (first | (with_reducible first | exact HB.out | apply below_alloc | apply pw_below_drewN | apply below_drew1) | exact HB.out)))); have n1_ := Aside0.mk (below_step (by repeat (first | (with_reducible first | exact HB.out | apply below_alloc | apply pw_below_drewN | apply below_drew1) | exact HB.out)) hb); clear HB; have HO169 := n0_; have HB := n1_; clear n0_ n1_; clear hb ho14; obtain ⟨Ao15, co15, eo15⟩ := Kd.R_slice HO169.out; subst eo15; have p170 : 0 ≤ ((ji7) : Int) := of_decide_eq_true (by first | (with_reducible assumption) | assumption); have q170 : (ji7) < (y167.length : Int) := of_decide_eq_true (by first | (with_reducible assumption) | assumption); obtain ⟨ad170, e170, hx170_0⟩ := Kd.at_string (Kd.R_reads' HO169.out).2.2 (ji7) p170 q170; cases e170; replace p170 := eq_true p170; replace q170 := eq_true q170) | (go_at_call 8; (with_reducible refine (lex_Op.calls k (((⟨#[97, 98]⟩ : ByteArray) ++ (rdOf ByteArray.empty y167 (ji7))) ++ a1) 2 t171 t172 _ A12.out).mono ?_); rintro e w16 ⟨rfl, hb⟩; have n0_ := Aside0.mk (Kd.R_below (by (with_reducible repeat (first | apply Kd.R_alloc | apply Kd.R_drewN | apply Kd.R_drew)); exact HO169.out) hb); have n1_ := Aside0.mk (below_step (by repeat (first | (with_reducible first | exact HB.out | apply below_alloc | apply pw_below_drewN | apply below_drew1) | exact HB.out)) hb); clear HO169; clear HB; have HO169 := n0_; have HB := n1_; clear n0_ n1_; (try clear hb); (try clear hb2); (try clear hk); (try clear hi))); try go_wp2_with (first | ((with_reducible refine gate_dst (N := 17) rfl ?_); (try (refine gate_guard (by rfl) ?_; dsimp only)); refine Kd.R_lit Kd.string _ 9 ?hg (N := 17) ?hd (xs := ([(⟨#[59, 59]⟩ : ByteArray), (⟨#[38, 38]⟩ : ByteArray), (⟨#[124, 124]⟩ : ByteArray), (⟨#[59]⟩ : ByteArray), (⟨#[124]⟩ : ByteArray), (⟨#[38]⟩ : ByteArray), (⟨#[40]⟩ : ByteArray), (⟨#[41]⟩ : ByteArray), (⟨#[60]⟩ : ByteArray), (⟨#[62]⟩ : ByteArray), (⟨#[62, 62]⟩ : ByteArray), (⟨#[60, 60]⟩ : ByteArray), (⟨#[60, 38]⟩ : ByteArray), (⟨#[62, 38]⟩ : ByteArray), (⟨#[60, 62]⟩ : ByteArray), (⟨#[62, 124]⟩ : ByteArray), (⟨#[10]⟩ : ByteArray)] : List ByteArray)) (inner := [.string (⟨#[59, 59]⟩ : ByteArray), .string (⟨#[38, 38]⟩ : ByteArray), .string (⟨#[124, 124]⟩ : ByteArray), .string (⟨#[59]⟩ : ByteArray), .string (⟨#[124]⟩ : ByteArray), .string (⟨#[38]⟩ : ByteArray), .string (⟨#[40]⟩ : ByteArray), .string (⟨#[41]⟩ : ByteArray), .string (⟨#[60]⟩ : ByteArray), .string (⟨#[62]⟩ : ByteArray), .string (⟨#[62, 62]⟩ : ByteArray), .string (⟨#[60, 60]⟩ : ByteArray), .string (⟨#[60, 38]⟩ : ByteArray), .string (⟨#[62, 38]⟩ : ByteArray), .string (⟨#[60, 62]⟩ : ByteArray), .string (⟨#[62, 124]⟩ : ByteArray), .string (⟨#[10]⟩ : ByteArray)]) (ok := fun _ => True) (okp := fun _ => True) ?hr ?hp (fun _ hk => hk) trivial (Below.refl _ _) (Nat.le_refl _) (by simp) ?_; (case hd => rfl); (case hg => rfl); (case hr => first | (go_simp; done) | (go_simp; rfl)); (case hp => exact (Reps.one (show Kd.M Kd.string _ _ _ (⟨#[59, 59]⟩ : ByteArray) [.string (⟨#[59, 59]⟩ : ByteArray)] from rfl) (Reps.one (show Kd.M Kd.string _ _ _ (⟨#[38, 38]⟩ : ByteArray) [.string (⟨#[38, 38]⟩ : ByteArray)] from rfl) (Reps.one (show Kd.M Kd.string _ _ _ (⟨#[124, 124]⟩ : ByteArray) [.string (⟨#[124, 124]⟩ : ByteArray)] from rfl) (Reps.one (show Kd.M Kd.string _ _ _ (⟨#[59]⟩ : ByteArray) [.string (⟨#[59]⟩ : ByteArray)] from rfl) (Reps.one (show Kd.M Kd.string _ _ _ (⟨#[124]⟩ : ByteArray) [.string (⟨#[124]⟩ : ByteArray)] from rfl) (Reps.one (show Kd.M Kd.string _ _ _ (⟨#[38]⟩ : ByteArray) [.string (⟨#[38]⟩ : ByteArray)] from rfl) (Reps.one (show Kd.M Kd.string _ _ _ (⟨#[40]⟩ : ByteArray) [.string (⟨#[40]⟩ : ByteArray)] from rfl) (Reps.one (show Kd.M Kd.string _ _ _ (⟨#[41]⟩ : ByteArray) [.string (⟨#[41]⟩ : ByteArray)] from rfl) (Reps.one (show Kd.M Kd.string _ _ _ (⟨#[60]⟩ : ByteArray) [.string (⟨#[60]⟩ : ByteArray)] from rfl) (Reps.one (show Kd.M Kd.string _ _ _ (⟨#[62]⟩ : ByteArray) [.string (⟨#[62]⟩ : ByteArray)] from rfl) (Reps.one (show Kd.M Kd.string _ _ _ (⟨#[62, 62]⟩ : ByteArray) [.string (⟨#[62, 62]⟩ : ByteArray)] from rfl) (Reps.one (show Kd.M Kd.string _ _ _ (⟨#[60, 60]⟩ : ByteArray) [.string (⟨#[60, 60]⟩ : ByteArray)] from rfl) (Reps.one (show Kd.M Kd.string _ _ _ (⟨#[60, 38]⟩ : ByteArray) [.string (⟨#[60, 38]⟩ : ByteArray)] from rfl) (Reps.one (show Kd.M Kd.string _ _ _ (⟨#[62, 38]⟩ : ByteArray) [.string (⟨#[62, 38]⟩ : ByteArray)] from rfl) (Reps.one (show Kd.M Kd.string _ _ _ (⟨#[60, 62]⟩ : ByteArray) [.string (⟨#[60, 62]⟩ : ByteArray)] from rfl) (Reps.one (show Kd.M Kd.string _ _ _ (⟨#[62, 124]⟩ : ByteArray) [.string (⟨#[62, 124]⟩ : ByteArray)] from rfl) (Reps.one (show Kd.M Kd.string _ _ _ (⟨#[10]⟩ : ByteArray) [.string (⟨#[10]⟩ : ByteArray)] from rfl) (Reps.none _ _))))))))))))))))))); intro v168 w13 ho14 hb hg_ hnew_; clear hg_ hnew_; (first | rw [← Ny167.out] at ho14 | (simp only [Int.reduceToNat] at ho14; rw [← Ny167.out] at ho14)); have n0_ := Aside0.mk (Kd.R_lower ho14 (below_size (by repeat (first | (with_reducible first | exact HB.out | apply below_alloc | apply pw_below_drewN | apply below_drew1) | exact HB.out)))); have n1_ := Aside0.mk (below_step (by repeat (first | (with_reducible first | exact HB.out | apply below_alloc | apply pw_below_drewN | apply below_drew1) | exact HB.out)) hb); clear HB; have HO169 := n0_; have HB := n1_; clear n0_ n1_; clear hb ho14; obtain ⟨Ao15, co15, eo15⟩ := Kd.R_slice HO169.out; subst eo15; have p170 : 0 ≤ ((ji7) : Int) := of_decide_eq_true (by first | (with_reducible assumption) | assumption); have q170 : (ji7) < (y167.length : Int) := of_decide_eq_true (by first | (with_reducible assumption) | assumption); obtain ⟨ad170, e170, hx170_0⟩ := Kd.at_string (Kd.R_reads' HO169.out).2.2 (ji7) p170 q170; cases e170; replace p170 := eq_true p170; replace q170 := eq_true q170) | (go_at_call 8; (with_reducible refine (lex_Op.calls k (((⟨#[97, 98]⟩ : ByteArray) ++ (rdOf ByteArray.empty y167 (ji7))) ++ a1) 2 t171 t172 _ A12.out).mono ?_); rintro e w16 ⟨rfl, hb⟩; have n0_ := Aside0.mk (Kd.R_below (by (with_reducible repeat (first | apply Kd.R_alloc | apply Kd.R_drewN | apply Kd.R_drew)); exact HO169.out) hb); have n1_ := Aside0.mk (below_step (by repeat (first | (with_reducible first | exact HB.out | apply below_alloc | apply pw_below_drewN | apply below_drew1) | exact HB.out)) hb); clear HO169; clear HB; have HO169 := n0_; have HB := n1_; clear n0_ n1_; (try clear hb); (try clear hb2); (try clear hk); (try clear hi))))
              go_loopg [9, 10] k (fun kq v9 v10 w' => ∃ (x9_1 : Bool) (x10_1 : Int), v9 = .bool x9_1 ∧ v10 = .int .i64 x10_1 ∧ Aside0 (conchlaw9_LexOps.l0 kq a1 y167 (rdOf ByteArray.empty y167 (ji7)) t171 t172 x9_1 x10_1 = some r) ∧ Aside0 (kq ≤ k) ∧ Aside0 (Kd.R Kd.string 9 w' w.heap.size (fun _ => True) (.slice (some ad170) y167.length co15) y167) ∧ Aside0 (Below w.heap.size w w'))
              case atStart => exact ⟨(false), (0), (by first | rfl | (simp; done) | (simp [*]; done)), (by first | rfl | (simp; done) | (simp [*]; done)), H', ⟨Nat.le_refl _⟩, ⟨by (with_reducible repeat (first | apply Kd.R_alloc | apply Kd.R_drewN | apply Kd.R_drew)); exact HO169.out⟩, ⟨by repeat (first | (with_reducible first | exact HB.out | apply below_alloc | apply pw_below_drewN | apply below_drew1) | exact HB.out)⟩⟩
              case round =>
                clear H'
                try clear c1
                try clear p1
                try clear q1
                try clear hx1
                try clear p2
                try clear c3
                try clear c3b0
                try clear c3b1
                try clear c5
                try clear c6
                try clear c6b0
                try clear c6b1
                try clear c6b2
                try clear c8
                try clear c8b0
                try clear c9
                try clear c9b0
                try clear c10
                try clear c10b0
                try clear c10b1
                try clear c10b2
                try clear c11
                try clear c11b0
                try clear c11b1
                try clear c11b2
                try clear hx170_0
                try clear p170
                try clear q170
                obtain ⟨x9_1, x10_1, rfl, rfl, HA, HK1, HO_5, HB⟩ := hrel
                cases gk with
                | zero => exact absurd HA.out (by simp [conchlaw9_LexOps.l0])
                | succ k1 =>
                  have H := HA.out
                  clear HA
                  simp only [conchlaw9_LexOps.l0] at H
                  by_cases c17 : x10_1 < (y167.length : Int)
                  · rw [if_pos c17] at H
                    have c17b0 : decide (x10_1 < (y167.length : Int)) = true := decide_eq_true c17
                    clear c17
                    by_cases c18 : x9_1 = true
                    · subst c18
                      have H1 : (conchlaw9_LexOps.l0 k1 a1 y167 (rdOf ByteArray.empty y167 (ji7)) t171 t172 true (wrap64 (x10_1 + 1))) = some r := by rw [if_pos rfl] at H; exact H
                      clear H
                      have H := H1
                      clear H1
                      have H' := Aside0.mk H
                      clear H
                      go_wp2
                      repeat (go_quiet (fail); try go_wp2)
                      go_roundg k1
                      case measure => have := HK1.out; omega
                      case rel => exact ⟨(true), (wrap64 (x10_1 + 1)), (by first | rfl | (simp; done) | (simp [*]; done)), (by first | rfl | (simp; done) | (simp [*]; done)), H', ⟨by have := HK1.out; omega⟩, ⟨by (with_reducible repeat (first | apply Kd.R_alloc | apply Kd.R_drewN | apply Kd.R_drew)); exact HO_5.out⟩, ⟨by repeat (first | (with_reducible first | exact HB.out | apply below_alloc | apply pw_below_drewN | apply below_drew1) | exact HB.out)⟩⟩
                    · replace c18 := Bool.eq_false_iff.mpr c18
                      subst c18
                      have H1 : (if 0 ≤ x10_1 then (if ((rdOf ByteArray.empty y167 x10_1).size : Int) > ((rdOf ByteArray.empty y167 (ji7)).size : Int) then (if (rdOf ByteArray.empty y167 (ji7)).size + a1.size ≤ 9223372036854775807 then (if (((rdOf ByteArray.empty y167 (ji7)) ++ a1).size : Int) ≥ ((rdOf ByteArray.empty y167 x10_1).size : Int) then (if 0 ≤ ((rdOf ByteArray.empty y167 x10_1).size : Int) then (if ((rdOf ByteArray.empty y167 x10_1).size : Int) ≤ (((rdOf ByteArray.empty y167 (ji7)) ++ a1).size : Int) then (conchlaw9_LexOps.l0 k1 a1 y167 (rdOf ByteArray.empty y167 (ji7)) t171 t172 ((((rdOf ByteArray.empty y167 (ji7)) ++ a1).extract 0 (((rdOf ByteArray.empty y167 x10_1).size : Int) : Int).toNat).toList == (rdOf ByteArray.empty y167 x10_1).toList) (wrap64 (x10_1 + 1))) else (none)) else (none)) else (conchlaw9_LexOps.l0 k1 a1 y167 (rdOf ByteArray.empty y167 (ji7)) t171 t172 false (wrap64 (x10_1 + 1)))) else (none)) else (conchlaw9_LexOps.l0 k1 a1 y167 (rdOf ByteArray.empty y167 (ji7)) t171 t172 false (wrap64 (x10_1 + 1)))) else (none)) = some r := by rw [if_neg (show ¬ (false = true) by decide)] at H; exact H
                      clear H
                      have H := H1
                      clear H1
                      by_cases c19 : 0 ≤ x10_1
                      · rw [if_pos c19] at H
                        have c19b0 : decide (0 ≤ x10_1) = true := decide_eq_true c19
                        clear c19
                        by_cases c20 : ((rdOf ByteArray.empty y167 x10_1).size : Int) > ((rdOf ByteArray.empty y167 (ji7)).size : Int)
                        · rw [if_pos c20] at H
                          have c20b0 : decide (((rdOf ByteArray.empty y167 (ji7)).size : Int) < ((rdOf ByteArray.empty y167 x10_1).size : Int)) = true := decide_eq_true c20
                          have c20b1 : decide ((rdOf ByteArray.empty y167 (ji7)).size < (rdOf ByteArray.empty y167 x10_1).size) = true := decide_eq_true (Int.ofNat_lt.mp c20)
                          clear c20
                          by_cases c21 : (rdOf ByteArray.empty y167 (ji7)).size + a1.size ≤ 9223372036854775807
                          · rw [if_pos c21] at H
                            have c21b0 := eq_true c21
                            have c21b1 : decide ((rdOf ByteArray.empty y167 (ji7)).size + a1.size ≤ 9223372036854775807) = true := decide_eq_true c21
                            try have c21b2 : (9223372036854775807 < (rdOf ByteArray.empty y167 (ji7)).size + a1.size) = False := eq_false (Nat.not_lt.2 c21)
                            by_cases c22 : (((rdOf ByteArray.empty y167 (ji7)) ++ a1).size : Int) ≥ ((rdOf ByteArray.empty y167 x10_1).size : Int)
                            · rw [if_pos c22] at H
                              have c22b0 : decide (((rdOf ByteArray.empty y167 x10_1).size : Int) ≤ (((rdOf ByteArray.empty y167 (ji7)) ++ a1).size : Int)) = true := decide_eq_true c22
                              try (have c22b0a := c22b0; simp only [ByteArray.size_append] at c22b0a)
                              try (have c22b0i := c22b0; simp only [ByteArray.size_append, Int.natCast_add] at c22b0i)
                              have c22b1 : decide ((rdOf ByteArray.empty y167 x10_1).size ≤ ((rdOf ByteArray.empty y167 (ji7)) ++ a1).size) = true := decide_eq_true (Int.ofNat_le.mp c22)
                              try (have c22b1a := c22b1; simp only [ByteArray.size_append] at c22b1a)
                              try (have c22b1i := c22b1; simp only [ByteArray.size_append, Int.natCast_add] at c22b1i)
                              clear c22
                              by_cases c23 : 0 ≤ ((rdOf ByteArray.empty y167 x10_1).size : Int)
                              · rw [if_pos c23] at H
                                have c23b0 := eq_true c23
                                have c23b1 : decide (0 ≤ ((rdOf ByteArray.empty y167 x10_1).size : Int)) = true := decide_eq_true c23
                                clear c23
                                by_cases c24 : ((rdOf ByteArray.empty y167 x10_1).size : Int) ≤ (((rdOf ByteArray.empty y167 (ji7)) ++ a1).size : Int)
                                · rw [if_pos c24] at H
                                  have c24b0 := eq_true c24
                                  have c24b1 : decide (((rdOf ByteArray.empty y167 x10_1).size : Int) ≤ (((rdOf ByteArray.empty y167 (ji7)) ++ a1).size : Int)) = true := decide_eq_true c24
                                  try (have c24b1a := c24b1; simp only [ByteArray.size_append] at c24b1a)
                                  try (have c24b1i := c24b1; simp only [ByteArray.size_append, Int.natCast_add] at c24b1i)
                                  have H' := Aside0.mk H
                                  clear H
                                  have p173 : 0 ≤ (x10_1 : Int) := of_decide_eq_true (by first | (with_reducible assumption) | assumption)
                                  have q173 : x10_1 < (y167.length : Int) := of_decide_eq_true (by first | (with_reducible assumption) | assumption)
                                  obtain ⟨ad173, e173, hx173_0⟩ := Kd.at_string (Kd.R_reads' HO_5.out).2.2 x10_1 p173 q173
                                  obtain rfl : ad170 = ad173 := (by injection e173)
                                  replace p173 := eq_true p173
                                  replace q173 := eq_true q173
                                  have p174 : 0 ≤ (x10_1 : Int) := of_decide_eq_true (by first | (with_reducible assumption) | assumption)
                                  have q174 : x10_1 < (y167.length : Int) := of_decide_eq_true (by first | (with_reducible assumption) | assumption)
                                  obtain ⟨ad174, e174, hx174_0⟩ := Kd.at_string (Kd.R_reads' HO_5.out).2.2 x10_1 p174 q174
                                  obtain rfl : ad170 = ad174 := (by injection e174)
                                  replace p174 := eq_true p174
                                  replace q174 := eq_true q174
                                  have p175 : 0 ≤ (x10_1 : Int) := of_decide_eq_true (by first | (with_reducible assumption) | assumption)
                                  have q175 : x10_1 < (y167.length : Int) := of_decide_eq_true (by first | (with_reducible assumption) | assumption)
                                  obtain ⟨ad175, e175, hx175_0⟩ := Kd.at_string (Kd.R_reads' HO_5.out).2.2 x10_1 p175 q175
                                  obtain rfl : ad170 = ad175 := (by injection e175)
                                  replace p175 := eq_true p175
                                  replace q175 := eq_true q175
                                  have p176 : 0 ≤ (x10_1 : Int) := of_decide_eq_true (by first | (with_reducible assumption) | assumption)
                                  have q176 : x10_1 < (y167.length : Int) := of_decide_eq_true (by first | (with_reducible assumption) | assumption)
                                  obtain ⟨ad176, e176, hx176_0⟩ := Kd.at_string (Kd.R_reads' HO_5.out).2.2 x10_1 p176 q176
                                  obtain rfl : ad170 = ad176 := (by injection e176)
                                  replace p176 := eq_true p176
                                  replace q176 := eq_true q176
                                  go_wp2
                                  repeat (go_quiet (fail); try go_wp2)
                                  go_roundg k1
                                  case measure => have := HK1.out; omega
                                  case rel => exact ⟨(((((rdOf ByteArray.empty y167 (ji7)) ++ a1).extract 0 (((rdOf ByteArray.empty y167 x10_1).size : Int) : Int).toNat).toList == (rdOf ByteArray.empty y167 x10_1).toList)), (wrap64 (x10_1 + 1)), (by first | rfl | (simp; done) | (simp only [← hji7] <;> (first | rfl | simp)) | (simp [*]; done)), (by first | rfl | (simp; done) | (simp [*]; done)), H', ⟨by have := HK1.out; omega⟩, ⟨by (with_reducible repeat (first | apply Kd.R_alloc | apply Kd.R_drewN | apply Kd.R_drew)); exact HO_5.out⟩, ⟨by repeat (first | (with_reducible first | exact HB.out | apply below_alloc | apply pw_below_drewN | apply below_drew1) | exact HB.out)⟩⟩
                                · rw [if_neg c24] at H
                                  exact absurd H (by simp)
                              · rw [if_neg c23] at H
                                exact absurd H (by simp)
                            · rw [if_neg c22] at H
                              have c22b0 : decide (((rdOf ByteArray.empty y167 x10_1).size : Int) ≤ (((rdOf ByteArray.empty y167 (ji7)) ++ a1).size : Int)) = false := decide_eq_false c22
                              try (have c22b0a := c22b0; simp only [ByteArray.size_append] at c22b0a)
                              try (have c22b0i := c22b0; simp only [ByteArray.size_append, Int.natCast_add] at c22b0i)
                              have c22b1 : decide ((rdOf ByteArray.empty y167 x10_1).size ≤ ((rdOf ByteArray.empty y167 (ji7)) ++ a1).size) = false := decide_eq_false (fun h => c22 (Int.ofNat_le.mpr h))
                              try (have c22b1a := c22b1; simp only [ByteArray.size_append] at c22b1a)
                              try (have c22b1i := c22b1; simp only [ByteArray.size_append, Int.natCast_add] at c22b1i)
                              clear c22
                              have H' := Aside0.mk H
                              clear H
                              have p173 : 0 ≤ (x10_1 : Int) := of_decide_eq_true (by first | (with_reducible assumption) | assumption)
                              have q173 : x10_1 < (y167.length : Int) := of_decide_eq_true (by first | (with_reducible assumption) | assumption)
                              obtain ⟨ad173, e173, hx173_0⟩ := Kd.at_string (Kd.R_reads' HO_5.out).2.2 x10_1 p173 q173
                              obtain rfl : ad170 = ad173 := (by injection e173)
                              replace p173 := eq_true p173
                              replace q173 := eq_true q173
                              have p174 : 0 ≤ (x10_1 : Int) := of_decide_eq_true (by first | (with_reducible assumption) | assumption)
                              have q174 : x10_1 < (y167.length : Int) := of_decide_eq_true (by first | (with_reducible assumption) | assumption)
                              obtain ⟨ad174, e174, hx174_0⟩ := Kd.at_string (Kd.R_reads' HO_5.out).2.2 x10_1 p174 q174
                              obtain rfl : ad170 = ad174 := (by injection e174)
                              replace p174 := eq_true p174
                              replace q174 := eq_true q174
                              go_wp2
                              repeat (go_quiet (fail); try go_wp2)
                              go_roundg k1
                              case measure => have := HK1.out; omega
                              case rel => exact ⟨(false), (wrap64 (x10_1 + 1)), (by first | rfl | (simp; done) | (simp [*]; done)), (by first | rfl | (simp; done) | (simp [*]; done)), H', ⟨by have := HK1.out; omega⟩, ⟨by (with_reducible repeat (first | apply Kd.R_alloc | apply Kd.R_drewN | apply Kd.R_drew)); exact HO_5.out⟩, ⟨by repeat (first | (with_reducible first | exact HB.out | apply below_alloc | apply pw_below_drewN | apply below_drew1) | exact HB.out)⟩⟩
                          · rw [if_neg c21] at H
                            exact absurd H (by simp)
                        · rw [if_neg c20] at H
                          have c20b0 : decide (((rdOf ByteArray.empty y167 (ji7)).size : Int) < ((rdOf ByteArray.empty y167 x10_1).size : Int)) = false := decide_eq_false c20
                          have c20b1 : decide ((rdOf ByteArray.empty y167 (ji7)).size < (rdOf ByteArray.empty y167 x10_1).size) = false := decide_eq_false (fun h => c20 (Int.ofNat_lt.mpr h))
                          clear c20
                          have H' := Aside0.mk H
                          clear H
                          have p173 : 0 ≤ (x10_1 : Int) := of_decide_eq_true (by first | (with_reducible assumption) | assumption)
                          have q173 : x10_1 < (y167.length : Int) := of_decide_eq_true (by first | (with_reducible assumption) | assumption)
                          obtain ⟨ad173, e173, hx173_0⟩ := Kd.at_string (Kd.R_reads' HO_5.out).2.2 x10_1 p173 q173
                          obtain rfl : ad170 = ad173 := (by injection e173)
                          replace p173 := eq_true p173
                          replace q173 := eq_true q173
                          go_wp2
                          repeat (go_quiet (fail); try go_wp2)
                          go_roundg k1
                          case measure => have := HK1.out; omega
                          case rel => exact ⟨(false), (wrap64 (x10_1 + 1)), (by first | rfl | (simp; done) | (simp [*]; done)), (by first | rfl | (simp; done) | (simp [*]; done)), H', ⟨by have := HK1.out; omega⟩, ⟨by (with_reducible repeat (first | apply Kd.R_alloc | apply Kd.R_drewN | apply Kd.R_drew)); exact HO_5.out⟩, ⟨by repeat (first | (with_reducible first | exact HB.out | apply below_alloc | apply pw_below_drewN | apply below_drew1) | exact HB.out)⟩⟩
                      · rw [if_neg c19] at H
                        exact absurd H (by simp)
                  · rw [if_neg c17] at H
                    have c17b0 : decide (x10_1 < (y167.length : Int)) = false := decide_eq_false c17
                    clear c17
                    by_cases c25 : 2 + (rdOf ByteArray.empty y167 (ji7)).size ≤ 9223372036854775807
                    · rw [if_pos c25] at H
                      have c25b0 := eq_true c25
                      have c25b1 : decide (2 + (rdOf ByteArray.empty y167 (ji7)).size ≤ 9223372036854775807) = true := decide_eq_true c25
                      try have c25b2 : (9223372036854775807 < 2 + (rdOf ByteArray.empty y167 (ji7)).size) = False := eq_false (Nat.not_lt.2 c25)
                      replace H := Option.bind_eq_some_iff.mp H
                      obtain ⟨⟨t177, t178⟩, A260, H⟩ := H
                      replace H : (if t172 = true then (if ((t171.toList == (rdOf ByteArray.empty y167 (ji7)).toList) == (!x9_1)) = true then (if (t171.size : Int) ≥ ((rdOf ByteArray.empty y167 (ji7)).size : Int) then (if t178 = true then (some false) else (if 0 < ((rdOf ByteArray.empty y167 (ji7)).size : Int) then ((lex_Ends.f (bt (rdOf ByteArray.empty y167 (ji7)) 0)).bind fun t179 => (if t179 = true then ((conchlaw9_awake.f k1).bind fun t180 => (some t180)) else (some false))) else (none))) else (some false)) else (some false)) else (some false)) = some r := H
                      have A26 := Aside0.mk A260
                      clear A260
                      by_cases c27 : t172 = true
                      · subst c27
                        have H1 : (if ((t171.toList == (rdOf ByteArray.empty y167 (ji7)).toList) == (!x9_1)) = true then (if (t171.size : Int) ≥ ((rdOf ByteArray.empty y167 (ji7)).size : Int) then (if t178 = true then (some false) else (if 0 < ((rdOf ByteArray.empty y167 (ji7)).size : Int) then ((lex_Ends.f (bt (rdOf ByteArray.empty y167 (ji7)) 0)).bind fun t179 => (if t179 = true then ((conchlaw9_awake.f k1).bind fun t180 => (some t180)) else (some false))) else (none))) else (some false)) else (some false)) = some r := by rw [if_pos rfl] at H; exact H
                        clear H
                        have H := H1
                        clear H1
                        by_cases c28 : ((t171.toList == (rdOf ByteArray.empty y167 (ji7)).toList) == (!x9_1)) = true
                        · rw [if_pos c28] at H
                          have c28b0 : ((t171.toList == (rdOf ByteArray.empty y167 (ji7)).toList) == (!x9_1)) = true := c28
                          (try (have c28b1 : decide ((t171.toList == (rdOf ByteArray.empty y167 (ji7)).toList) = (!x9_1)) = true := by simpa using c28))
                          (try (have c28b2 : ((t171.toList == (rdOf ByteArray.empty y167 (ji7)).toList) == (!x9_1)) = true := by simpa using c28))
                          clear c28
                          by_cases c29 : (t171.size : Int) ≥ ((rdOf ByteArray.empty y167 (ji7)).size : Int)
                          · rw [if_pos c29] at H
                            have c29b0 : decide (((rdOf ByteArray.empty y167 (ji7)).size : Int) ≤ (t171.size : Int)) = true := decide_eq_true c29
                            have c29b1 : decide ((rdOf ByteArray.empty y167 (ji7)).size ≤ t171.size) = true := decide_eq_true (Int.ofNat_le.mp c29)
                            clear c29
                            by_cases c30 : t178 = true
                            · subst c30
                              have H1 : (some false) = some r := by rw [if_pos rfl] at H; exact H
                              clear H
                              have H := H1
                              clear H1
                              obtain rfl := Option.some.inj H
                              go_wp2_with (first | (go_at_call 8; (with_reducible refine (lex_Op.calls k1 ((⟨#[97, 98]⟩ : ByteArray) ++ (rdOf ByteArray.empty y167 (ji7))) 1 t177 true _ A26.out).mono ?_); rintro e w31 ⟨rfl, hb⟩; have n0_ := Aside0.mk (Kd.R_below (by (with_reducible repeat (first | apply Kd.R_alloc | apply Kd.R_drewN | apply Kd.R_drew)); exact HO_5.out) hb); have n1_ := Aside0.mk (below_step (by repeat (first | (with_reducible first | exact HB.out | apply below_alloc | apply pw_below_drewN | apply below_drew1) | exact HB.out)) hb); clear HO_5; clear HB; have HO_5 := n0_; have HB := n1_; clear n0_ n1_; (try clear hb); (try clear hb2); (try clear hk); (try clear hi)))
                              repeat (go_quiet (first | (go_at_call 8; (with_reducible refine (lex_Op.calls k1 ((⟨#[97, 98]⟩ : ByteArray) ++ (rdOf ByteArray.empty y167 (ji7))) 1 t177 true _ A26.out).mono ?_); rintro e w31 ⟨rfl, hb⟩; have n0_ := Aside0.mk (Kd.R_below (by (with_reducible repeat (first | apply Kd.R_alloc | apply Kd.R_drewN | apply Kd.R_drew)); exact HO_5.out) hb); have n1_ := Aside0.mk (below_step (by repeat (first | (with_reducible first | exact HB.out | apply below_alloc | apply pw_below_drewN | apply below_drew1) | exact HB.out)) hb); clear HO_5; clear HB; have HO_5 := n0_; have HB := n1_; clear n0_ n1_; (try clear hb); (try clear hb2); (try clear hk); (try clear hi))); try go_wp2_with (first | (go_at_call 8; (with_reducible refine (lex_Op.calls k1 ((⟨#[97, 98]⟩ : ByteArray) ++ (rdOf ByteArray.empty y167 (ji7))) 1 t177 true _ A26.out).mono ?_); rintro e w31 ⟨rfl, hb⟩; have n0_ := Aside0.mk (Kd.R_below (by (with_reducible repeat (first | apply Kd.R_alloc | apply Kd.R_drewN | apply Kd.R_drew)); exact HO_5.out) hb); have n1_ := Aside0.mk (below_step (by repeat (first | (with_reducible first | exact HB.out | apply below_alloc | apply pw_below_drewN | apply below_drew1) | exact HB.out)) hb); clear HO_5; clear HB; have HO_5 := n0_; have HB := n1_; clear n0_ n1_; (try clear hb); (try clear hb2); (try clear hk); (try clear hi))))
                              go_ret
                              exact ⟨by first | rfl | (simp [errW_none, errW_some] <;> rfl) | (simp only [← hji7]; first | rfl | (simp [errW_none, errW_some] <;> rfl)) | (simp [*, errW_none, errW_some] <;> rfl), by repeat (first | (with_reducible first | exact HB.out | apply below_alloc | apply pw_below_drewN | apply below_drew1) | exact HB.out)⟩
                            · replace c30 := Bool.eq_false_iff.mpr c30
                              subst c30
                              have H1 : (if 0 < ((rdOf ByteArray.empty y167 (ji7)).size : Int) then ((lex_Ends.f (bt (rdOf ByteArray.empty y167 (ji7)) 0)).bind fun t179 => (if t179 = true then ((conchlaw9_awake.f k1).bind fun t180 => (some t180)) else (some false))) else (none)) = some r := by rw [if_neg (show ¬ (false = true) by decide)] at H; exact H
                              clear H
                              have H := H1
                              clear H1
                              by_cases c32 : 0 < ((rdOf ByteArray.empty y167 (ji7)).size : Int)
                              · rw [if_pos c32] at H
                                have c32b0 : decide (0 < ((rdOf ByteArray.empty y167 (ji7)).size : Int)) = true := decide_eq_true c32
                                have c32b1 : decide (0 < (rdOf ByteArray.empty y167 (ji7)).size) = true := decide_eq_true (by omega)
                                clear c32
                                replace H := Option.bind_eq_some_iff.mp H
                                obtain ⟨t179, A340, H⟩ := H
                                replace H : (if t179 = true then ((conchlaw9_awake.f k1).bind fun t180 => (some t180)) else (some false)) = some r := H
                                have A34 := Aside0.mk A340
                                clear A340
                                by_cases c35 : t179 = true
                                · subst c35
                                  have H1 : ((conchlaw9_awake.f k1).bind fun t180 => (some t180)) = some r := by rw [if_pos rfl] at H; exact H
                                  clear H
                                  have H := H1
                                  clear H1
                                  replace H := Option.bind_eq_some_iff.mp H
                                  obtain ⟨t180, A360, H⟩ := H
                                  replace H : (some t180) = some r := H
                                  have A36 := Aside0.mk A360
                                  clear A360
                                  obtain rfl := Option.some.inj H
                                  go_wp2_with (first | (go_at_call 8; (with_reducible refine (lex_Op.calls k1 ((⟨#[97, 98]⟩ : ByteArray) ++ (rdOf ByteArray.empty y167 (ji7))) 1 t177 false _ A26.out).mono ?_); rintro e w37 ⟨rfl, hb⟩; have n0_ := Aside0.mk (Kd.R_below (by (with_reducible repeat (first | apply Kd.R_alloc | apply Kd.R_drewN | apply Kd.R_drew)); exact HO_5.out) hb); have n1_ := Aside0.mk (below_step (by repeat (first | (with_reducible first | exact HB.out | apply below_alloc | apply pw_below_drewN | apply below_drew1) | exact HB.out)) hb); clear HO_5; clear HB; have HO_5 := n0_; have HB := n1_; clear n0_ n1_; (try clear hb); (try clear hb2); (try clear hk); (try clear hi); have p33 : 0 ≤ (0 : Int) := (by omega); have q33 : 0 < (rdOf ByteArray.empty y167 (ji7)).size := (by have : (0 : Int) < ((rdOf ByteArray.empty y167 (ji7)).size : Int) := of_decide_eq_true (by first | (with_reducible assumption) | assumption); omega); have hx33 : ∀ h : 0 < (rdOf ByteArray.empty y167 (ji7)).size, (((rdOf ByteArray.empty y167 (ji7))[0]'h).toNat : Int) = bt (rdOf ByteArray.empty y167 (ji7)) 0 := bt_at (rdOf ByteArray.empty y167 (ji7)) 0; clear p33; have qi33 : (0 < ((rdOf ByteArray.empty y167 (ji7)).size : Int)) = True := eq_true (of_decide_eq_true (by first | (with_reducible assumption) | assumption)); replace q33 := eq_true q33) | (go_at_call 9; (with_reducible refine (lex_Ends.calls (bt (rdOf ByteArray.empty y167 (ji7)) 0) true _ A34.out).mono ?_); rintro e w' ⟨rfl, ⟨nd, rfl⟩⟩; (try first | exact ⟨rfl, _, World.drewN_drewN _ _ _⟩ | exact ⟨rfl, _, Eq.trans (World.drewN_drewN _ _ _) (congrArg (World.drewN _) (Nat.add_assoc _ _ _))⟩)) | (go_at_call 10; (with_reducible refine (conchlaw9_awake.calls k1  t180 _ A36.out).mono ?_); rintro e w38 ⟨rfl, hb⟩; have n0_ := Aside0.mk (Kd.R_below (by (with_reducible repeat (first | apply Kd.R_alloc | apply Kd.R_drewN | apply Kd.R_drew)); exact HO_5.out) hb); have n1_ := Aside0.mk (below_step (by repeat (first | (with_reducible first | exact HB.out | apply below_alloc | apply pw_below_drewN | apply below_drew1) | exact HB.out)) hb); clear HO_5; clear HB; have HO_5 := n0_; have HB := n1_; clear n0_ n1_; (try clear hb); (try clear hb2); (try clear hk); (try clear hi)))
                                  repeat (go_quiet (first | (go_at_call 8; (with_reducible refine (lex_Op.calls k1 ((⟨#[97, 98]⟩ : ByteArray) ++ (rdOf ByteArray.empty y167 (ji7))) 1 t177 false _ A26.out).mono ?_); rintro e w37 ⟨rfl, hb⟩; have n0_ := Aside0.mk (Kd.R_below (by (with_reducible repeat (first | apply Kd.R_alloc | apply Kd.R_drewN | apply Kd.R_drew)); exact HO_5.out) hb); have n1_ := Aside0.mk (below_step (by repeat (first | (with_reducible first | exact HB.out | apply below_alloc | apply pw_below_drewN | apply below_drew1) | exact HB.out)) hb); clear HO_5; clear HB; have HO_5 := n0_; have HB := n1_; clear n0_ n1_; (try clear hb); (try clear hb2); (try clear hk); (try clear hi); have p33 : 0 ≤ (0 : Int) := (by omega); have q33 : 0 < (rdOf ByteArray.empty y167 (ji7)).size := (by have : (0 : Int) < ((rdOf ByteArray.empty y167 (ji7)).size : Int) := of_decide_eq_true (by first | (with_reducible assumption) | assumption); omega); have hx33 : ∀ h : 0 < (rdOf ByteArray.empty y167 (ji7)).size, (((rdOf ByteArray.empty y167 (ji7))[0]'h).toNat : Int) = bt (rdOf ByteArray.empty y167 (ji7)) 0 := bt_at (rdOf ByteArray.empty y167 (ji7)) 0; clear p33; have qi33 : (0 < ((rdOf ByteArray.empty y167 (ji7)).size : Int)) = True := eq_true (of_decide_eq_true (by first | (with_reducible assumption) | assumption)); replace q33 := eq_true q33) | (go_at_call 9; (with_reducible refine (lex_Ends.calls (bt (rdOf ByteArray.empty y167 (ji7)) 0) true _ A34.out).mono ?_); rintro e w' ⟨rfl, ⟨nd, rfl⟩⟩; (try first | exact ⟨rfl, _, World.drewN_drewN _ _ _⟩ | exact ⟨rfl, _, Eq.trans (World.drewN_drewN _ _ _) (congrArg (World.drewN _) (Nat.add_assoc _ _ _))⟩)) | (go_at_call 10; (with_reducible refine (conchlaw9_awake.calls k1  t180 _ A36.out).mono ?_); rintro e w38 ⟨rfl, hb⟩; have n0_ := Aside0.mk (Kd.R_below (by (with_reducible repeat (first | apply Kd.R_alloc | apply Kd.R_drewN | apply Kd.R_drew)); exact HO_5.out) hb); have n1_ := Aside0.mk (below_step (by repeat (first | (with_reducible first | exact HB.out | apply below_alloc | apply pw_below_drewN | apply below_drew1) | exact HB.out)) hb); clear HO_5; clear HB; have HO_5 := n0_; have HB := n1_; clear n0_ n1_; (try clear hb); (try clear hb2); (try clear hk); (try clear hi))); try go_wp2_with (first | (go_at_call 8; (with_reducible refine (lex_Op.calls k1 ((⟨#[97, 98]⟩ : ByteArray) ++ (rdOf ByteArray.empty y167 (ji7))) 1 t177 false _ A26.out).mono ?_); rintro e w37 ⟨rfl, hb⟩; have n0_ := Aside0.mk (Kd.R_below (by (with_reducible repeat (first | apply Kd.R_alloc | apply Kd.R_drewN | apply Kd.R_drew)); exact HO_5.out) hb); have n1_ := Aside0.mk (below_step (by repeat (first | (with_reducible first | exact HB.out | apply below_alloc | apply pw_below_drewN | apply below_drew1) | exact HB.out)) hb); clear HO_5; clear HB; have HO_5 := n0_; have HB := n1_; clear n0_ n1_; (try clear hb); (try clear hb2); (try clear hk); (try clear hi); have p33 : 0 ≤ (0 : Int) := (by omega); have q33 : 0 < (rdOf ByteArray.empty y167 (ji7)).size := (by have : (0 : Int) < ((rdOf ByteArray.empty y167 (ji7)).size : Int) := of_decide_eq_true (by first | (with_reducible assumption) | assumption); omega); have hx33 : ∀ h : 0 < (rdOf ByteArray.empty y167 (ji7)).size, (((rdOf ByteArray.empty y167 (ji7))[0]'h).toNat : Int) = bt (rdOf ByteArray.empty y167 (ji7)) 0 := bt_at (rdOf ByteArray.empty y167 (ji7)) 0; clear p33; have qi33 : (0 < ((rdOf ByteArray.empty y167 (ji7)).size : Int)) = True := eq_true (of_decide_eq_true (by first | (with_reducible assumption) | assumption)); replace q33 := eq_true q33) | (go_at_call 9; (with_reducible refine (lex_Ends.calls (bt (rdOf ByteArray.empty y167 (ji7)) 0) true _ A34.out).mono ?_); rintro e w' ⟨rfl, ⟨nd, rfl⟩⟩; (try first | exact ⟨rfl, _, World.drewN_drewN _ _ _⟩ | exact ⟨rfl, _, Eq.trans (World.drewN_drewN _ _ _) (congrArg (World.drewN _) (Nat.add_assoc _ _ _))⟩)) | (go_at_call 10; (with_reducible refine (conchlaw9_awake.calls k1  t180 _ A36.out).mono ?_); rintro e w38 ⟨rfl, hb⟩; have n0_ := Aside0.mk (Kd.R_below (by (with_reducible repeat (first | apply Kd.R_alloc | apply Kd.R_drewN | apply Kd.R_drew)); exact HO_5.out) hb); have n1_ := Aside0.mk (below_step (by repeat (first | (with_reducible first | exact HB.out | apply below_alloc | apply pw_below_drewN | apply below_drew1) | exact HB.out)) hb); clear HO_5; clear HB; have HO_5 := n0_; have HB := n1_; clear n0_ n1_; (try clear hb); (try clear hb2); (try clear hk); (try clear hi))))
                                  go_ret
                                  exact ⟨by first | rfl | (simp [errW_none, errW_some] <;> rfl) | (simp only [← hji7]; first | rfl | (simp [errW_none, errW_some] <;> rfl)) | (simp [*, errW_none, errW_some] <;> rfl), by repeat (first | (with_reducible first | exact HB.out | apply below_alloc | apply pw_below_drewN | apply below_drew1) | exact HB.out)⟩
                                · replace c35 := Bool.eq_false_iff.mpr c35
                                  subst c35
                                  have H1 : (some false) = some r := by rw [if_neg (show ¬ (false = true) by decide)] at H; exact H
                                  clear H
                                  have H := H1
                                  clear H1
                                  obtain rfl := Option.some.inj H
                                  go_wp2_with (first | (go_at_call 8; (with_reducible refine (lex_Op.calls k1 ((⟨#[97, 98]⟩ : ByteArray) ++ (rdOf ByteArray.empty y167 (ji7))) 1 t177 false _ A26.out).mono ?_); rintro e w39 ⟨rfl, hb⟩; have n0_ := Aside0.mk (Kd.R_below (by (with_reducible repeat (first | apply Kd.R_alloc | apply Kd.R_drewN | apply Kd.R_drew)); exact HO_5.out) hb); have n1_ := Aside0.mk (below_step (by repeat (first | (with_reducible first | exact HB.out | apply below_alloc | apply pw_below_drewN | apply below_drew1) | exact HB.out)) hb); clear HO_5; clear HB; have HO_5 := n0_; have HB := n1_; clear n0_ n1_; (try clear hb); (try clear hb2); (try clear hk); (try clear hi); have p33 : 0 ≤ (0 : Int) := (by omega); have q33 : 0 < (rdOf ByteArray.empty y167 (ji7)).size := (by have : (0 : Int) < ((rdOf ByteArray.empty y167 (ji7)).size : Int) := of_decide_eq_true (by first | (with_reducible assumption) | assumption); omega); have hx33 : ∀ h : 0 < (rdOf ByteArray.empty y167 (ji7)).size, (((rdOf ByteArray.empty y167 (ji7))[0]'h).toNat : Int) = bt (rdOf ByteArray.empty y167 (ji7)) 0 := bt_at (rdOf ByteArray.empty y167 (ji7)) 0; clear p33; have qi33 : (0 < ((rdOf ByteArray.empty y167 (ji7)).size : Int)) = True := eq_true (of_decide_eq_true (by first | (with_reducible assumption) | assumption)); replace q33 := eq_true q33) | (go_at_call 9; (with_reducible refine (lex_Ends.calls (bt (rdOf ByteArray.empty y167 (ji7)) 0) false _ A34.out).mono ?_); rintro e w' ⟨rfl, ⟨nd, rfl⟩⟩; (try first | exact ⟨rfl, _, World.drewN_drewN _ _ _⟩ | exact ⟨rfl, _, Eq.trans (World.drewN_drewN _ _ _) (congrArg (World.drewN _) (Nat.add_assoc _ _ _))⟩)))
                                  repeat (go_quiet (first | (go_at_call 8; (with_reducible refine (lex_Op.calls k1 ((⟨#[97, 98]⟩ : ByteArray) ++ (rdOf ByteArray.empty y167 (ji7))) 1 t177 false _ A26.out).mono ?_); rintro e w39 ⟨rfl, hb⟩; have n0_ := Aside0.mk (Kd.R_below (by (with_reducible repeat (first | apply Kd.R_alloc | apply Kd.R_drewN | apply Kd.R_drew)); exact HO_5.out) hb); have n1_ := Aside0.mk (below_step (by repeat (first | (with_reducible first | exact HB.out | apply below_alloc | apply pw_below_drewN | apply below_drew1) | exact HB.out)) hb); clear HO_5; clear HB; have HO_5 := n0_; have HB := n1_; clear n0_ n1_; (try clear hb); (try clear hb2); (try clear hk); (try clear hi); have p33 : 0 ≤ (0 : Int) := (by omega); have q33 : 0 < (rdOf ByteArray.empty y167 (ji7)).size := (by have : (0 : Int) < ((rdOf ByteArray.empty y167 (ji7)).size : Int) := of_decide_eq_true (by first | (with_reducible assumption) | assumption); omega); have hx33 : ∀ h : 0 < (rdOf ByteArray.empty y167 (ji7)).size, (((rdOf ByteArray.empty y167 (ji7))[0]'h).toNat : Int) = bt (rdOf ByteArray.empty y167 (ji7)) 0 := bt_at (rdOf ByteArray.empty y167 (ji7)) 0; clear p33; have qi33 : (0 < ((rdOf ByteArray.empty y167 (ji7)).size : Int)) = True := eq_true (of_decide_eq_true (by first | (with_reducible assumption) | assumption)); replace q33 := eq_true q33) | (go_at_call 9; (with_reducible refine (lex_Ends.calls (bt (rdOf ByteArray.empty y167 (ji7)) 0) false _ A34.out).mono ?_); rintro e w' ⟨rfl, ⟨nd, rfl⟩⟩; (try first | exact ⟨rfl, _, World.drewN_drewN _ _ _⟩ | exact ⟨rfl, _, Eq.trans (World.drewN_drewN _ _ _) (congrArg (World.drewN _) (Nat.add_assoc _ _ _))⟩))); try go_wp2_with (first | (go_at_call 8; (with_reducible refine (lex_Op.calls k1 ((⟨#[97, 98]⟩ : ByteArray) ++ (rdOf ByteArray.empty y167 (ji7))) 1 t177 false _ A26.out).mono ?_); rintro e w39 ⟨rfl, hb⟩; have n0_ := Aside0.mk (Kd.R_below (by (with_reducible repeat (first | apply Kd.R_alloc | apply Kd.R_drewN | apply Kd.R_drew)); exact HO_5.out) hb); have n1_ := Aside0.mk (below_step (by repeat (first | (with_reducible first | exact HB.out | apply below_alloc | apply pw_below_drewN | apply below_drew1) | exact HB.out)) hb); clear HO_5; clear HB; have HO_5 := n0_; have HB := n1_; clear n0_ n1_; (try clear hb); (try clear hb2); (try clear hk); (try clear hi); have p33 : 0 ≤ (0 : Int) := (by omega); have q33 : 0 < (rdOf ByteArray.empty y167 (ji7)).size := (by have : (0 : Int) < ((rdOf ByteArray.empty y167 (ji7)).size : Int) := of_decide_eq_true (by first | (with_reducible assumption) | assumption); omega); have hx33 : ∀ h : 0 < (rdOf ByteArray.empty y167 (ji7)).size, (((rdOf ByteArray.empty y167 (ji7))[0]'h).toNat : Int) = bt (rdOf ByteArray.empty y167 (ji7)) 0 := bt_at (rdOf ByteArray.empty y167 (ji7)) 0; clear p33; have qi33 : (0 < ((rdOf ByteArray.empty y167 (ji7)).size : Int)) = True := eq_true (of_decide_eq_true (by first | (with_reducible assumption) | assumption)); replace q33 := eq_true q33) | (go_at_call 9; (with_reducible refine (lex_Ends.calls (bt (rdOf ByteArray.empty y167 (ji7)) 0) false _ A34.out).mono ?_); rintro e w' ⟨rfl, ⟨nd, rfl⟩⟩; (try first | exact ⟨rfl, _, World.drewN_drewN _ _ _⟩ | exact ⟨rfl, _, Eq.trans (World.drewN_drewN _ _ _) (congrArg (World.drewN _) (Nat.add_assoc _ _ _))⟩))))
                                  go_ret
                                  exact ⟨by first | rfl | (simp [errW_none, errW_some] <;> rfl) | (simp only [← hji7]; first | rfl | (simp [errW_none, errW_some] <;> rfl)) | (simp [*, errW_none, errW_some] <;> rfl), by repeat (first | (with_reducible first | exact HB.out | apply below_alloc | apply pw_below_drewN | apply below_drew1) | exact HB.out)⟩
                              · rw [if_neg c32] at H
                                exact absurd H (by simp)
                          · rw [if_neg c29] at H
                            have c29b0 : decide (((rdOf ByteArray.empty y167 (ji7)).size : Int) ≤ (t171.size : Int)) = false := decide_eq_false c29
                            have c29b1 : decide ((rdOf ByteArray.empty y167 (ji7)).size ≤ t171.size) = false := decide_eq_false (fun h => c29 (Int.ofNat_le.mpr h))
                            clear c29
                            obtain rfl := Option.some.inj H
                            go_wp2_with (first | (go_at_call 8; (with_reducible refine (lex_Op.calls k1 ((⟨#[97, 98]⟩ : ByteArray) ++ (rdOf ByteArray.empty y167 (ji7))) 1 t177 t178 _ A26.out).mono ?_); rintro e w40 ⟨rfl, hb⟩; have n0_ := Aside0.mk (Kd.R_below (by (with_reducible repeat (first | apply Kd.R_alloc | apply Kd.R_drewN | apply Kd.R_drew)); exact HO_5.out) hb); have n1_ := Aside0.mk (below_step (by repeat (first | (with_reducible first | exact HB.out | apply below_alloc | apply pw_below_drewN | apply below_drew1) | exact HB.out)) hb); clear HO_5; clear HB; have HO_5 := n0_; have HB := n1_; clear n0_ n1_; (try clear hb); (try clear hb2); (try clear hk); (try clear hi)))
                            repeat (go_quiet (first | (go_at_call 8; (with_reducible refine (lex_Op.calls k1 ((⟨#[97, 98]⟩ : ByteArray) ++ (rdOf ByteArray.empty y167 (ji7))) 1 t177 t178 _ A26.out).mono ?_); rintro e w40 ⟨rfl, hb⟩; have n0_ := Aside0.mk (Kd.R_below (by (with_reducible repeat (first | apply Kd.R_alloc | apply Kd.R_drewN | apply Kd.R_drew)); exact HO_5.out) hb); have n1_ := Aside0.mk (below_step (by repeat (first | (with_reducible first | exact HB.out | apply below_alloc | apply pw_below_drewN | apply below_drew1) | exact HB.out)) hb); clear HO_5; clear HB; have HO_5 := n0_; have HB := n1_; clear n0_ n1_; (try clear hb); (try clear hb2); (try clear hk); (try clear hi))); try go_wp2_with (first | (go_at_call 8; (with_reducible refine (lex_Op.calls k1 ((⟨#[97, 98]⟩ : ByteArray) ++ (rdOf ByteArray.empty y167 (ji7))) 1 t177 t178 _ A26.out).mono ?_); rintro e w40 ⟨rfl, hb⟩; have n0_ := Aside0.mk (Kd.R_below (by (with_reducible repeat (first | apply Kd.R_alloc | apply Kd.R_drewN | apply Kd.R_drew)); exact HO_5.out) hb); have n1_ := Aside0.mk (below_step (by repeat (first | (with_reducible first | exact HB.out | apply below_alloc | apply pw_below_drewN | apply below_drew1) | exact HB.out)) hb); clear HO_5; clear HB; have HO_5 := n0_; have HB := n1_; clear n0_ n1_; (try clear hb); (try clear hb2); (try clear hk); (try clear hi))))
                            go_ret
                            exact ⟨by first | rfl | (simp [errW_none, errW_some] <;> rfl) | (simp only [← hji7]; first | rfl | (simp [errW_none, errW_some] <;> rfl)) | (simp [*, errW_none, errW_some] <;> rfl), by repeat (first | (with_reducible first | exact HB.out | apply below_alloc | apply pw_below_drewN | apply below_drew1) | exact HB.out)⟩
                        · rw [if_neg c28] at H
                          have c28b0 : ((t171.toList == (rdOf ByteArray.empty y167 (ji7)).toList) == (!x9_1)) = false := by simpa using c28
                          (try (have c28b1 : decide ((t171.toList == (rdOf ByteArray.empty y167 (ji7)).toList) = (!x9_1)) = false := by simpa using c28))
                          (try (have c28b2 : ((t171.toList == (rdOf ByteArray.empty y167 (ji7)).toList) == (!x9_1)) = false := by simpa using c28))
                          (try (have c28b3 : ¬ ((t171.toList == (rdOf ByteArray.empty y167 (ji7)).toList) = (!x9_1)) := by simpa using c28))
                          clear c28
                          obtain rfl := Option.some.inj H
                          go_wp2_with (first | (go_at_call 8; (with_reducible refine (lex_Op.calls k1 ((⟨#[97, 98]⟩ : ByteArray) ++ (rdOf ByteArray.empty y167 (ji7))) 1 t177 t178 _ A26.out).mono ?_); rintro e w41 ⟨rfl, hb⟩; have n0_ := Aside0.mk (Kd.R_below (by (with_reducible repeat (first | apply Kd.R_alloc | apply Kd.R_drewN | apply Kd.R_drew)); exact HO_5.out) hb); have n1_ := Aside0.mk (below_step (by repeat (first | (with_reducible first | exact HB.out | apply below_alloc | apply pw_below_drewN | apply below_drew1) | exact HB.out)) hb); clear HO_5; clear HB; have HO_5 := n0_; have HB := n1_; clear n0_ n1_; (try clear hb); (try clear hb2); (try clear hk); (try clear hi)))
                          repeat (go_quiet (first | (go_at_call 8; (with_reducible refine (lex_Op.calls k1 ((⟨#[97, 98]⟩ : ByteArray) ++ (rdOf ByteArray.empty y167 (ji7))) 1 t177 t178 _ A26.out).mono ?_); rintro e w41 ⟨rfl, hb⟩; have n0_ := Aside0.mk (Kd.R_below (by (with_reducible repeat (first | apply Kd.R_alloc | apply Kd.R_drewN | apply Kd.R_drew)); exact HO_5.out) hb); have n1_ := Aside0.mk (below_step (by repeat (first | (with_reducible first | exact HB.out | apply below_alloc | apply pw_below_drewN | apply below_drew1) | exact HB.out)) hb); clear HO_5; clear HB; have HO_5 := n0_; have HB := n1_; clear n0_ n1_; (try clear hb); (try clear hb2); (try clear hk); (try clear hi))); try go_wp2_with (first | (go_at_call 8; (with_reducible refine (lex_Op.calls k1 ((⟨#[97, 98]⟩ : ByteArray) ++ (rdOf ByteArray.empty y167 (ji7))) 1 t177 t178 _ A26.out).mono ?_); rintro e w41 ⟨rfl, hb⟩; have n0_ := Aside0.mk (Kd.R_below (by (with_reducible repeat (first | apply Kd.R_alloc | apply Kd.R_drewN | apply Kd.R_drew)); exact HO_5.out) hb); have n1_ := Aside0.mk (below_step (by repeat (first | (with_reducible first | exact HB.out | apply below_alloc | apply pw_below_drewN | apply below_drew1) | exact HB.out)) hb); clear HO_5; clear HB; have HO_5 := n0_; have HB := n1_; clear n0_ n1_; (try clear hb); (try clear hb2); (try clear hk); (try clear hi))))
                          go_ret
                          exact ⟨by first | rfl | (simp [errW_none, errW_some] <;> rfl) | (simp only [← hji7]; first | rfl | (simp [errW_none, errW_some] <;> rfl)) | (simp [*, errW_none, errW_some] <;> rfl), by repeat (first | (with_reducible first | exact HB.out | apply below_alloc | apply pw_below_drewN | apply below_drew1) | exact HB.out)⟩
                      · replace c27 := Bool.eq_false_iff.mpr c27
                        subst c27
                        have H1 : (some false) = some r := by rw [if_neg (show ¬ (false = true) by decide)] at H; exact H
                        clear H
                        have H := H1
                        clear H1
                        obtain rfl := Option.some.inj H
                        go_wp2_with (first | (go_at_call 8; (with_reducible refine (lex_Op.calls k1 ((⟨#[97, 98]⟩ : ByteArray) ++ (rdOf ByteArray.empty y167 (ji7))) 1 t177 t178 _ A26.out).mono ?_); rintro e w42 ⟨rfl, hb⟩; have n0_ := Aside0.mk (Kd.R_below (by (with_reducible repeat (first | apply Kd.R_alloc | apply Kd.R_drewN | apply Kd.R_drew)); exact HO_5.out) hb); have n1_ := Aside0.mk (below_step (by repeat (first | (with_reducible first | exact HB.out | apply below_alloc | apply pw_below_drewN | apply below_drew1) | exact HB.out)) hb); clear HO_5; clear HB; have HO_5 := n0_; have HB := n1_; clear n0_ n1_; (try clear hb); (try clear hb2); (try clear hk); (try clear hi)))
                        repeat (go_quiet (first | (go_at_call 8; (with_reducible refine (lex_Op.calls k1 ((⟨#[97, 98]⟩ : ByteArray) ++ (rdOf ByteArray.empty y167 (ji7))) 1 t177 t178 _ A26.out).mono ?_); rintro e w42 ⟨rfl, hb⟩; have n0_ := Aside0.mk (Kd.R_below (by (with_reducible repeat (first | apply Kd.R_alloc | apply Kd.R_drewN | apply Kd.R_drew)); exact HO_5.out) hb); have n1_ := Aside0.mk (below_step (by repeat (first | (with_reducible first | exact HB.out | apply below_alloc | apply pw_below_drewN | apply below_drew1) | exact HB.out)) hb); clear HO_5; clear HB; have HO_5 := n0_; have HB := n1_; clear n0_ n1_; (try clear hb); (try clear hb2); (try clear hk); (try clear hi))); try go_wp2_with (first | (go_at_call 8; (with_reducible refine (lex_Op.calls k1 ((⟨#[97, 98]⟩ : ByteArray) ++ (rdOf ByteArray.empty y167 (ji7))) 1 t177 t178 _ A26.out).mono ?_); rintro e w42 ⟨rfl, hb⟩; have n0_ := Aside0.mk (Kd.R_below (by (with_reducible repeat (first | apply Kd.R_alloc | apply Kd.R_drewN | apply Kd.R_drew)); exact HO_5.out) hb); have n1_ := Aside0.mk (below_step (by repeat (first | (with_reducible first | exact HB.out | apply below_alloc | apply pw_below_drewN | apply below_drew1) | exact HB.out)) hb); clear HO_5; clear HB; have HO_5 := n0_; have HB := n1_; clear n0_ n1_; (try clear hb); (try clear hb2); (try clear hk); (try clear hi))))
                        go_ret
                        exact ⟨by first | rfl | (simp [errW_none, errW_some] <;> rfl) | (simp only [← hji7]; first | rfl | (simp [errW_none, errW_some] <;> rfl)) | (simp [*, errW_none, errW_some] <;> rfl), by repeat (first | (with_reducible first | exact HB.out | apply below_alloc | apply pw_below_drewN | apply below_drew1) | exact HB.out)⟩
                    · rw [if_neg c25] at H
                      exact absurd H (by simp)
            · rw [if_neg c11] at H
              exact absurd H (by simp)
          · rw [if_neg c10] at H
            exact absurd H (by simp)
        · rw [if_neg c9] at H
          exact absurd H (by simp)
      · rw [if_neg c8] at H
        exact absurd H (by simp)

/-- THE ONE PURE STATEMENT of conchlaw9_LexOps: yours. -/
def conchlaw9_LexOps.Pure : Prop := ∀ (a0 : Int) (a1 : ByteArray), (Lit.int .i64 a0).wf = true → a1.size ≤ 140737488351232 → ∃ k, conchlaw9_LexOps.f k a0 a1 = some true
theorem conchlaw9_LexOps.walk (P : conchlaw9_LexOps.Pure) (a0 : Int) (a1 : ByteArray) (w : World) (w0 : (Lit.int .i64 a0).wf = true) (w1 : a1.size ≤ 140737488351232) :
    Calls Try.prog 5 #[.int .i64 a0, .string a1] w fun e w' => e = .returned (.bool true) ∧ Below w.heap.size w w' := by
  obtain ⟨k, h⟩ := P a0 a1 w0 w1
  refine (conchlaw9_LexOps.calls k a0 a1 true w h).mono ?_
  rintro e w' ⟨rfl, hd⟩
  exact ⟨rfl, hd⟩

end Go.Proofs.Ytemdfhadijdddaa.PAll
