/- WorldTells, of what came in. -/
import Derived.Test.YtjegfogfeeedhaaTf
import Derived.KernelRfl
namespace Go.Proofs.Ytjegfogfeeedhaa.EvA
set_option linter.unusedVariables false
set_option linter.unusedSimpArgs false
theorem len_one {u : List AV} {n : Nat} (h : u.length = n) (hn : n = 1) : ∃ x, u = [x] := by
  subst hn
  match u, h with
  | [x], _ => exact ⟨x, rfl⟩
theorem cl3 : Try.prog.cellsOf 3 = 1 := by kernel_rfl
theorem cl9 : Try.prog.cellsOf 9 = 1 := by kernel_rfl
theorem cl23 : Try.prog.cellsOf 23 = 1 := by kernel_rfl
theorem cl25 : Try.prog.cellsOf 25 = 1 := by kernel_rfl
theorem cl26 : Try.prog.cellsOf 26 = 1 := by kernel_rfl
theorem sh_var {d : Nat} (us : List AV) (h : Sh Try.prog (d + 2) 58 us) : ∃ p : ByteArray × ByteArray, us = [.str p.1, .str p.2] ∧ True := by
  obtain ⟨u, r, rfl, h1, h2, u2, r2, rfl, h3, h4, rfl⟩ := sh_struct Try.underlying58 h
  obtain ⟨s, rfl, _⟩ := sh_str Try.underlying9 h2
  obtain ⟨t, rfl, _⟩ := sh_str Try.underlying9 h4
  exact ⟨(s, t), rfl, trivial⟩
theorem sh_out {d : Nat} (us : List AV) (h : Sh Try.prog (d + 2) 30 us) : ∃ p : Int × ByteArray, us = [.int .i64 p.1, .str p.2] ∧ True := by
  obtain ⟨u, r, rfl, h1, h2, u2, r2, rfl, h3, h4, rfl⟩ := sh_struct Try.underlying30 h
  obtain ⟨s, rfl, _⟩ := sh_int Try.underlying3 h2
  obtain ⟨t, rfl, _⟩ := sh_str Try.underlying9 h4
  exact ⟨(s, t), rfl, trivial⟩
theorem sh_world {us : List AV} (h : Sh Try.prog 9 28 us) : ∃ va ar fi ou re fu V A T O R, us = [va, ar, fi, ou, re, .int .i64 fu] ∧ WI va ar fi ou re V A T O R := by
  obtain ⟨u1, r1, rfl, l1, h1, u2, r2, rfl, l2, h2, u3, r3, rfl, l3, h3, u4, r4, rfl, l4, h4, u5, r5, rfl, l5, h5, u6, r6, rfl, l6, h6, rfl⟩ := sh_struct Try.underlying28 h
  obtain ⟨va, V, rfl, hv, _⟩ := sh_row (z := 2) Try.underlying25 (by kernel_rfl) (f := fun p : ByteArray × ByteArray => [AV.str p.1, .str p.2]) (q := fun _ => True) sh_var (fun x => rfl) h1
  obtain ⟨ar, A, rfl, ha, _⟩ := sh_strs Try.underlying23 Try.underlying9 cl9 h2
  obtain ⟨fi, T, rfl, ht, _⟩ := sh_strs Try.underlying23 Try.underlying9 cl9 h3
  obtain ⟨ou, O, rfl, ho, _⟩ := sh_row (z := 2) Try.underlying26 (by kernel_rfl) (f := fun p : Int × ByteArray => [AV.int .i64 p.1, .str p.2]) (q := fun _ => True) sh_out (fun x => rfl) h4
  obtain ⟨re, R, rfl, hr, _⟩ := sh_strs Try.underlying23 Try.underlying9 cl9 h5
  obtain ⟨fu, rfl, _⟩ := sh_int Try.underlying3 h6
  exact ⟨va, ar, fi, ou, re, fu, V, A, T, O, R, rfl, hv, ha, ht, ho, hr⟩
theorem WorldTells_true (us : List AV) (a1 : AV) (w0 : Sh Try.prog 9 28 us) (w1 : Sh Try.prog 9 22 [a1]) : ∃ n, (aeval sW ftab n 4 [.agg us, a1] h0).map (·.1) = some (.bool true) := by
  obtain ⟨va, ar, fi, ou, re, fu, V, A, T, O, R, rfl, hw⟩ := sh_world w0
  obtain ⟨v, M, e1, hm, hN, _⟩ := sh_ints (d := 7) Try.underlying22 Try.underlying3 cl3 w1
  obtain rfl : a1 = v := by simpa using e1
  exact ev_true (tells_ev hw hm hN)
end Go.Proofs.Ytjegfogfeeedhaa.EvA
