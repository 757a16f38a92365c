/- An evaluator of the program's code over abstract values and an abstract heap: a call's first steps. -/
import Derived.Test.YtadohhhjpbhhoaaEvIx
import Derived.Test.YtadohhhjpbhhoaaEvQt
namespace Go.Proofs.Ytadohhhjpbhhoaa.EvA
open Go.RowKit
set_option linter.unusedVariables false
theorem aevalF_succ {G : FuncId → Option (List AV → AH → Option (AV × AH))} {FT : FuncId → Option FF} {f : FuncId} {ff : FF} {args : List AV} {e : EV} (hG : G f = none) (hF : FT f = some ff) (hi : initE args ff.ntmps = some e) (m : Nat) (h : AH) :
    aevalF G FT (m + 1) f args h = endF (dcallF G FT (aevalF G FT m) m) ff.results (ff.body (aevalF G FT m) m e h.bare) := by
  have e0 : aevalF G FT (m + 1) f args h = (Option.rec (motive := fun _ => Option (AV × AH))
      (Option.rec (motive := fun _ => Option (AV × AH)) none (fun fn => Option.rec (motive := fun _ => Option (AV × AH)) none (fun e => endF (dcallF G FT (aevalF G FT m) m) fn.results (fn.body (aevalF G FT m) m e h.bare)) (initE args fn.ntmps)) (FT f)) (fun s => s args h) (G f) : Option (AV × AH)) := rfl
  rw [e0, hG, hF]
  show (Option.rec (motive := fun _ => Option (AV × AH)) none (fun e => endF (dcallF G FT (aevalF G FT m) m) ff.results (ff.body (aevalF G FT m) m e h.bare)) (initE args ff.ntmps) : Option (AV × AH)) = _
  rw [hi]
theorem fSeq_reg {r : FR} {b : FC} {c : Fn} {n : Nat} {e e' : EV} {h h' : AH} (hr : r c e h = some (e', h')) : fSeq (fReg r) b c n e h = b c n e' (h'.keep h) := by
  unfold fSeq fReg; rw [hr]
/-! The first steps of a call, with what they make unnamed. -/
noncomputable def prE (x : Option (EV × AH)) : EV := Option.rec bl8 (fun p => p.1) x
noncomputable def prH (x : Option (EV × AH)) : AH := Option.rec h0 (fun p => p.2) x
noncomputable def prV (x : Option (AV × AH)) : AV := Option.rec (.tup []) (fun p => p.1) x
noncomputable def prW (x : Option (AV × AH)) : AH := Option.rec h0 (fun p => p.2) x
theorem fSeq_regP {r : FR} {b : FC} {c : Fn} {n : Nat} {e : EV} {h : AH} (hr : (r c e h).isSome = true) : fSeq (fReg r) b c n e h = b c n (prE (r c e h)) ((prH (r c e h)).keep h) := by
  unfold fSeq fReg
  cases hx : r c e h with
  | none => rw [hx] at hr; cases hr
  | some p => rfl
theorem fSeq_doP {s : AV → EV → EV} {o : FO} {r : FR} {b : FC} {c : Fn} {n : Nat} {e : EV} {h : AH} (ho : (o c e h).isSome = true) (hd : (prW (o c e h)).defs = h.defs) : fSeq (fReg (fDo s o r)) b c n e h = fSeq (fReg r) b c n (s (prV (o c e h)) e) (prW (o c e h)) := by
  unfold fSeq fReg fDo
  cases hx : o c e h with
  | none => rw [hx] at ho; cases ho
  | some p =>
    rw [hx] at hd
    have hd : p.2.defs = h.defs := hd
    dsimp only [prV, prW]
    cases r c (s p.1 e) p.2 with
    | none => rfl
    | some q => unfold AH.keep; rw [hd]
theorem fSeq_doV {s : AV → EV → EV} {o : FO} {r : FR} {b : FC} {c : Fn} {n : Nat} {e : EV} {h : AH} {v : AV} (hv : prV (o c e h) = v) (ho : (o c e h).isSome = true) (hd : (prW (o c e h)).defs = h.defs) : fSeq (fReg (fDo s o r)) b c n e h = fSeq (fReg r) b c n (s v e) (prW (o c e h)) := by
  rw [fSeq_doP ho hd, hv]
theorem quick_true {S : Sum} {n : Nat} {f : FuncId} {a : List AV} {h : AH} {v : AV} (e : (aevalF S qtab n f a h).map (·.1) = some v) : (aeval S ftab n f a h).map (·.1) = some v := by
  obtain ⟨x, h1, h2⟩ := Option.map_eq_some_iff.1 e
  rw [aevalF_is qtab_ok n f a h x h1]; simpa using h2
end Go.Proofs.Ytadohhhjpbhhoaa.EvA
