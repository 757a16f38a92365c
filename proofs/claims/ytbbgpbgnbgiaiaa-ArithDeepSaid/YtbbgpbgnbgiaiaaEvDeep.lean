/- The law on what stands deep one in the other: its first steps; that what the document fixes is so. -/
import Derived.Test.YtbbgpbgnbgiaiaaEvSm
import Derived.KernelRfl
namespace Go.Proofs.Ytbbgpbgnbgiaiaa.EvA
set_option linter.unusedVariables false
theorem quick_true {S : FuncId → Option (List AV → AH → Option (AV × AH))} {n : Nat} {f : FuncId} {a : List AV} {h : AH} {v : AV} (e : (aevalF S qtab n f a h).map (·.1) = some v) : (aeval S ftab n f a h).map (·.1) = some v := by
  obtain ⟨x, h1, h2⟩ := Option.map_eq_some_iff.1 e
  rw [aevalF_is qtab_ok n f a h x h1]; simpa using h2
theorem awakeQ : (aevalF noS qtab 200 13 [] h0).map (·.1) = some (.bool true) := by kernel_rfl
abbrev sAwake : FuncId → Option (List AV → AH → Option (AV × AH)) := sumTrue 13
theorem sAwake_ok (B : Nat) (w0 : World) : SumOk Try.prog B w0 sAwake := sumTrue_ok ftab_ok (quick_true awakeQ) B w0
def deepE (n k : Int) (b : Bool) : EV := s0 (.int .i64 k) (s19 (.int .i64 k) (s18 (.int .i64 (Go.bits .and .i64 n 255)) (s17 (.int .i64 n) (s4 (.bool false) (s1 (.bool b) (s0 (.int .i64 n) bl8))))))
theorem deep_step (n : Int) (b : Bool) (m : Nat) : aevalF sAwake qtab (m + 1) 5 [.int .i64 n, .bool b] h0 = finF fr5 (fb5r (aevalF sAwake qtab m) m (deepE n (Int.tmod (Go.bits .and .i64 n 255) 40) b) h0) := by
  rw [aevalF_succ (ff := ff5) (e := s1 (.bool b) (s0 (.int .i64 n) bl8)) rfl rfl rfl m h0]
  rw [show ff5.body = fb5 from rfl, show ff5.results = fr5 from rfl]
  unfold fb5
  rw [fSeq_reg (e' := s4 (.bool false) (s1 (.bool b) (s0 (.int .i64 n) bl8))) (h' := h0) rfl, fSeq_reg (e' := deepE n (Int.tmod (Go.bits .and .i64 n 255) 40) b) (h' := h0) rfl]
def Deep (n k : Int) (b : Bool) : Prop := (finF fr5 (fb5r (aevalF sAwake qtab 199) 199 (deepE n k b) h0)).map (·.1) = some (.bool true)
end Go.Proofs.Ytbbgpbgnbgiaiaa.EvA
