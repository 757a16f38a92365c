/- An evaluator of the program's code over abstract values and an abstract heap: which operations may change places. -/
import Derived.Test.YtadohhhjpbhhoaaEvU
namespace Go.Proofs.Ytadohhhjpbhhoaa.EvA
open Go.RowKit
set_option linter.unusedVariables false
set_option linter.unusedSimpArgs false
/-- It touches no heap. -/
def Sil (k : KO) : Prop := ∀ (c1 c2 : Fn) (ts : Tmps) (h1 h2 : AH), k c2 ts h2 = (k c1 ts h1).map fun x => (x.1, h2)
/-- It leaves the heap as it is. -/
def Rds (k : KO) : Prop := ∀ (call : Fn) (ts : Tmps) (h : AH) (v : AV) (h' : AH), k call ts h = some (v, h') → h' = h
theorem Sil.rds {k : KO} (hk : Sil k) : Rds k := by
  intro call ts h v h' e
  have := hk call call ts h h
  rw [e] at this
  simp at this; exact this
theorem sil_move (x : AX) : Sil (oMove x) := fun c1 c2 ts h1 h2 => rfl
theorem sil_pick (c x y : AX) : Sil (oPick c x y) := fun c1 c2 ts h1 h2 => by unfold oPick; cases c ts <;> rfl
theorem sil_build (z : List AV) (p : List (Nat × Nat × AX)) : Sil (oBuild z p) := fun c1 c2 ts h1 h2 => by unfold oBuild; cases afill z (partsOf p ts) <;> rfl
theorem sil_nil (x : AX) : Sil (oNil x) := fun c1 c2 ts h1 h2 => by unfold oNil; cases x ts <;> rfl
theorem sil_arith (op : BinOp) (x y : AX) : Sil (oArith op x y) := fun c1 c2 ts h1 h2 => by unfold oArith; cases aarith op (x ts) (y ts) <;> rfl
theorem sil_eq (n : Bool) (m : Nat) (x y : AX) : Sil (oEq n m x y) := fun c1 c2 ts h1 h2 => by unfold oEq; cases scalarEq m (x ts) (y ts) <;> rfl
theorem sil_shl (x y : AX) : Sil (oShl x y) := fun c1 c2 ts h1 h2 => by
  unfold oShl; cases x ts <;> cases y ts <;> first | rfl | (dsimp only; split <;> rfl)
theorem sil_shr (x y : AX) : Sil (oShr x y) := fun c1 c2 ts h1 h2 => by
  unfold oShr; cases x ts <;> cases y ts <;> first | rfl | (dsimp only; split <;> rfl)
theorem sil_not (x : AX) : Sil (oNot x) := fun c1 c2 ts h1 h2 => by unfold oNot; cases x ts <;> rfl
theorem sil_neg (x : AX) : Sil (oNeg x) := fun c1 c2 ts h1 h2 => by unfold oNeg; cases x ts <;> rfl
theorem sil_conv (k : IntKind) (x : AX) : Sil (oConv k x) := fun c1 c2 ts h1 h2 => by unfold oConv; cases x ts <;> rfl
theorem sil_fn (f : FuncId) (l : List AX) : Sil (oFn f l) := fun c1 c2 ts h1 h2 => rfl
theorem sil_mfn (f : FuncId) (l : List AX) : Sil (oMfn f l) := fun c1 c2 ts h1 h2 => rfl
theorem sil_min (x y : AX) : Sil (oMin x y) := fun c1 c2 ts h1 h2 => by unfold oMin; cases x ts <;> cases y ts <;> rfl
theorem sil_max (x y : AX) : Sil (oMax x y) := fun c1 c2 ts h1 h2 => by unfold oMax; cases x ts <;> cases y ts <;> rfl
theorem sil_faddr (n : Nat) (x : AX) : Sil (oFaddr n x) := fun c1 c2 ts h1 h2 => by unfold oFaddr; cases x ts <;> rfl
theorem sil_field (n : Nat) (q : Option Nat) (x : AX) : Sil (oField n q x) := fun c1 c2 ts h1 h2 => by
  unfold oField; cases x ts <;> first | rfl | (dsimp only; split <;> rfl)
theorem sil_iaddr (n : Nat) (x y : AX) : Sil (oIaddr n x y) := fun c1 c2 ts h1 h2 => by
  unfold oIaddr; cases x ts <;> cases y ts <;> first | rfl | (dsimp only; split <;> rfl)
theorem sil_eqs (n : Bool) (l : List (Nat × Nat)) (x y : AX) : Sil (oEqS n l x y) := fun c1 c2 ts h1 h2 => by
  unfold oEqS; cases x ts <;> cases y ts <;> first | rfl | (dsimp only; split <;> rfl)
theorem sil_iaddrA (n m : Nat) (x y : AX) : Sil (oIaddrA n m x y) := fun c1 c2 ts h1 h2 => by
  unfold oIaddrA; cases x ts <;> cases y ts <;> first | rfl | (dsimp only; split <;> rfl)
theorem sil_idx (x y : AX) : Sil (oIdx x y) := fun c1 c2 ts h1 h2 => by
  unfold oIdx; cases x ts <;> cases y ts <;> first | rfl | (dsimp only; split <;> first | rfl | (split <;> rfl))
theorem sil_extract (x : AX) (n : Nat) : Sil (oExtract x n) := fun c1 c2 ts h1 h2 => by
  unfold oExtract; cases x ts <;> first | rfl | (dsimp only; split <;> rfl)
theorem rds_load (q : Option Nat) (x : AX) : Rds (oLoad q x) := fun call ts h v h' e => by
  unfold oLoad at e; (repeat' split at e) <;> first | (cases e; done) | (simp only [Option.some.injEq, Prod.mk.injEq] at e; exact e.2.symm)
theorem rds_lookup (q : Nat) (z : AV) (ok : Bool) (m k : AX) : Rds (oLookup q z ok m k) := fun call ts h v h' e => by
  unfold oLookup at e; (repeat' split at e) <;> first | (cases e; done) | (simp only [Option.some.injEq, Prod.mk.injEq] at e; exact e.2.symm)
theorem rds_cutstr (x : AX) (lo hi : Option AX) : Rds (oCutstr x lo hi) := fun call ts h v h' e => by
  unfold oCutstr at e; (repeat' split at e) <;> first | (cases e; done) | (simp only [Option.some.injEq, Prod.mk.injEq] at e; exact e.2.symm)
theorem rds_cutrow (n : Nat) (x : AX) (lo hi : Option AX) : Rds (oCutrow n x lo hi) := fun call ts h v h' e => by
  unfold oCutrow at e; (repeat' split at e) <;> first | (cases e; done) | (simp only [Option.some.injEq, Prod.mk.injEq] at e; exact e.2.symm)
theorem rds_lenS (x : AX) : Rds (oLenS x) := fun call ts h v h' e => by
  unfold oLenS at e; (repeat' split at e) <;> first | (cases e; done) | (simp only [Option.some.injEq, Prod.mk.injEq] at e; exact e.2.symm)
theorem rds_lenR (x : AX) : Rds (oLenR x) := fun call ts h v h' e => by
  unfold oLenR at e; (repeat' split at e) <;> first | (cases e; done) | (simp only [Option.some.injEq, Prod.mk.injEq] at e; exact e.2.symm)
theorem rds_lenM (x : AX) : Rds (oLenM x) := fun call ts h v h' e => by
  unfold oLenM at e; (repeat' split at e) <;> first | (cases e; done) | (simp only [Option.some.injEq, Prod.mk.injEq] at e; exact e.2.symm)
/-- What is read stays when a row is made. -/
def Stays (k : KO) : Prop := ∀ (call : Fn) (ts : Tmps) (h : AH) (v : AV) (n s : Nat), k call ts h = some (v, h) → k call ts (h.newRow n s).2 = some (v, (h.newRow n s).2)
theorem ok_newRow {h : AH} {r : Src} {n s : Nat} (e : h.ok r = true) : (h.newRow n s).2.ok r = true := by
  unfold AH.ok at e ⊢
  simp only [Bool.or_eq_true] at e ⊢
  rcases e with e | e
  · exact Or.inl e
  · right
    show ((h.live.set (h.rnext + 1) h.rnext true).get r.id).getD false = true
    by_cases hi : r.id = h.rnext
    · rw [hi, Tr.get_set_same _ _ _ _ (by omega)]; rfl
    · rw [Tr.get_set_ne _ _ _ _ _ hi]; exact e
theorem stays_load (q : Option Nat) (x : AX) : Stays (oLoad q x) := fun call ts h v n s e => by
  unfold oLoad at e ⊢
  cases hx : x ts with
  | ptr i off =>
    rw [hx] at e; dsimp only at e ⊢
    show (match h.get i with | some (.cells cs) => _ | _ => _) = _
    revert e
    cases h.get i with
    | none => intro e; cases e
    | some b => cases b with
      | cells cs =>
        dsimp only
        cases apart cs off q with
        | none => intro e; cases e
        | some y => intro e; simp at e; subst e; rfl
      | map a b => intro e; cases e
  | eptr cs off r =>
    rw [hx] at e; dsimp only at e ⊢
    cases hok : h.ok r with
    | false => rw [hok] at e; cases e
    | true =>
      rw [hok] at e; rw [ok_newRow hok]
      dsimp only at e ⊢
      revert e
      cases apart cs off q with
      | none => intro e; cases e
      | some y => intro e; simp at e; subst e; rfl
  | _ => rw [hx] at e; cases e
theorem stays_lookup (q : Nat) (z : AV) (ok : Bool) (m k : AX) : Stays (oLookup q z ok m k) := fun call ts h v n s e => by
  have he : entries (h.newRow n s).2 (m ts) = entries h (m ts) := by
    unfold entries; cases m ts <;> rfl
  unfold oLookup at e ⊢
  rw [he]
  revert e
  cases isKey (k ts) with
  | false => intro e; cases e
  | true =>
    dsimp only
    cases entries h (m ts) with
    | none => intro e; cases e
    | some es =>
      dsimp only
      cases findA q (k ts) es with
      | none => intro e; cases e
      | some r => intro e; simp at e; subst e; rfl
theorem stays_cutstr (x : AX) (lo hi : Option AX) : Stays (oCutstr x lo hi) := fun call ts h v n s e => by
  unfold oCutstr at e ⊢
  cases hx : x ts with
  | str b =>
    rw [hx] at e; dsimp only at e ⊢
    revert e
    cases bounds b.size (opt lo ts) (opt hi ts) with
    | none => intro e; cases e
    | some y => intro e; simp at e; subst e; rfl
  | _ => rw [hx] at e; cases e
theorem stays_cutrow (sz : Nat) (x : AX) (lo hi : Option AX) : Stays (oCutrow sz x lo hi) := fun call ts h v n s e => by
  unfold oCutrow at e ⊢
  cases hx : x ts with
  | nilrow =>
    rw [hx] at e; dsimp only at e ⊢
    revert e
    cases bounds 0 (opt lo ts) (opt hi ts) with
    | none => intro e; cases e
    | some y => intro e; simp at e; subst e; rfl
  | row cs len r =>
    rw [hx] at e; dsimp only at e ⊢
    split at e
    · rename_i hc
      rw [if_pos ⟨ok_newRow hc.1, hc.2⟩]
      revert e
      cases bounds len (opt lo ts) (opt hi ts) with
      | none => intro e; cases e
      | some y => intro e; simp at e; subst e; rfl
    · cases e
  | _ => rw [hx] at e; cases e
theorem stays_lenS (x : AX) : Stays (oLenS x) := fun call ts h v n s e => by
  unfold oLenS at e ⊢; cases hx : x ts <;> rw [hx] at e <;> first | (cases e; done) | (simp at e; subst e; rfl)
theorem stays_lenR (x : AX) : Stays (oLenR x) := fun call ts h v n s e => by
  unfold oLenR at e ⊢; cases hx : x ts <;> rw [hx] at e <;> first | (cases e; done) | (simp at e; subst e; rfl)
theorem stays_lenM (x : AX) : Stays (oLenM x) := fun call ts h v n s e => by
  unfold oLenM at e ⊢
  cases hx : x ts with
  | nilmap => rw [hx] at e; simp at e; subst e; rfl
  | map i =>
    rw [hx] at e; dsimp only at e ⊢
    show (match h.get i with | some (.map es _) => _ | _ => _) = _
    revert e
    cases h.get i with
    | none => intro e; cases e
    | some b => cases b with
      | cells cs => intro e; cases e
      | map a b => intro e; simp at e; subst e; rfl
  | _ => rw [hx] at e; cases e
theorem cls_sil {P : Program} {op : Op} {k : KO} (hk : cOp P op = some k) (hc : cls op = 0) : Sil k := by
  unfold cOp at hk
  split at hk
  all_goals (try (simp only [cls] at hc; done))
  all_goals (try (cases hc; done))
  case h_1 => obtain ⟨a, h1, rfl⟩ := Option.map_eq_some_iff.1 hk; exact sil_move _
  case h_2 => obtain ⟨a, h1, rfl⟩ := Option.map_eq_some_iff.1 hk; exact sil_move _
  case h_3 =>
    split at hk
    · simp only [Option.some.injEq] at hk; subst hk; exact sil_pick _ _ _
    · cases hk
  case h_6 =>
    split at hk
    · split at hk
      · obtain ⟨q, h1, rfl⟩ := Option.map_eq_some_iff.1 hk; exact sil_build _ _
      · cases hk
    · split at hk
      · obtain ⟨q, h1, rfl⟩ := Option.map_eq_some_iff.1 hk; exact sil_build _ _
      · cases hk
    · cases hk
  case h_10 => obtain ⟨a, h1, rfl⟩ := Option.map_eq_some_iff.1 hk; exact sil_nil _
  case h_11 =>
    split at hk
    · split at hk
      · rcases eqK_cases hk with ⟨q, rfl⟩ | ⟨q, rfl⟩
        · exact sil_eq _ _ _ _
        · exact sil_eqs _ _ _ _
      · rcases eqK_cases hk with ⟨q, rfl⟩ | ⟨q, rfl⟩
        · exact sil_eq _ _ _ _
        · exact sil_eqs _ _ _ _
      · simp only [Option.some.injEq] at hk; subst hk; exact sil_shl _ _
      · simp only [Option.some.injEq] at hk; subst hk; exact sil_shr _ _
      · simp only [Option.some.injEq] at hk; subst hk; exact sil_arith _ _ _
    · cases hk
  case h_12 =>
    split at hk
    · obtain ⟨a, h1, rfl⟩ := Option.map_eq_some_iff.1 hk; exact sil_not _
    · obtain ⟨a, h1, rfl⟩ := Option.map_eq_some_iff.1 hk; exact sil_neg _
    · cases hk
  case h_13 =>
    split at hk
    · obtain ⟨a, h3, rfl⟩ := Option.map_eq_some_iff.1 hk; exact sil_conv _ _
    · cases hk
  case h_14 =>
    split at hk
    · obtain ⟨a, h3, rfl⟩ := Option.map_eq_some_iff.1 hk; exact sil_fn _ _
    · split at hk
      · obtain ⟨a, h3, rfl⟩ := Option.map_eq_some_iff.1 hk; exact sil_mfn _ _
      · cases hk
  case h_16 =>
    split at hk
    · split at hk
      · split at hk
        · cases hk
        · split at hk
          · simp only [Option.some.injEq] at hk; subst hk; exact sil_faddr _ _
          · cases hk
      · cases hk
    · cases hk
  case h_17 =>
    split at hk
    · split at hk
      · obtain ⟨q, h5, rfl⟩ := Option.map_eq_some_iff.1 hk; exact sil_field _ _ _
      · cases hk
    · cases hk
  case h_18 =>
    split at hk
    · rcases iaddrK_cases hk with ⟨s, rfl⟩ | ⟨n, s, rfl⟩
      · exact sil_iaddr _ _ _
      · exact sil_iaddrA _ _ _ _
    · cases hk
  case h_19 =>
    split at hk
    · simp only [Option.some.injEq] at hk; subst hk; exact sil_idx _ _
    · cases hk
  case h_20 => obtain ⟨a, h1, rfl⟩ := Option.map_eq_some_iff.1 hk; exact sil_extract _ _
  case h_25 =>
    rename_i c
    obtain ⟨callee, ⟨args⟩, ⟨ats⟩⟩ := c
    simp only [cls] at hc
    split at hc
    · cases hc
    · dsimp only at hk
      split at hk
      · split at hk
        · simp only [Option.some.injEq] at hk; subst hk; exact sil_min _ _
        · cases hk
      · cases hk
    · dsimp only at hk
      split at hk
      · split at hk
        · simp only [Option.some.injEq] at hk; subst hk; exact sil_max _ _
        · cases hk
      · cases hk
    · cases hc
  case h_26 => cases hk
theorem cls_rds {P : Program} {op : Op} {k : KO} (hk : cOp P op = some k) (hc : cls op = 1) : Rds k ∧ Stays k := by
  unfold cOp at hk
  split at hk
  all_goals (try (simp only [cls] at hc; done))
  all_goals (try (cases hc; done))
  case h_8 =>
    split at hk
    · simp only [Option.some.injEq] at hk; subst hk; exact ⟨rds_load _ _, stays_load _ _⟩
    · cases hk
  case h_15 =>
    split at hk
    · cases hk
    · split at hk
      · simp only [Option.some.injEq] at hk; subst hk; exact ⟨rds_cutstr _ _ _, stays_cutstr _ _ _⟩
      · obtain ⟨q, h5, rfl⟩ := Option.map_eq_some_iff.1 hk; exact ⟨rds_cutrow _ _ _ _, stays_cutrow _ _ _ _⟩
      · cases hk
  case h_21 =>
    split at hk
    · split at hk
      · simp only [Option.some.injEq] at hk; subst hk; exact ⟨rds_lookup _ _ _ _ _, stays_lookup _ _ _ _ _⟩
      · cases hk
    · cases hk
  case h_25 =>
    rename_i c
    obtain ⟨callee, ⟨args⟩, ⟨ats⟩⟩ := c
    simp only [cls] at hc
    split at hc
    · dsimp only at hk
      split at hk
      · split at hk
        · simp only [Option.some.injEq] at hk; subst hk; exact ⟨rds_lenS _, stays_lenS _⟩
        · simp only [Option.some.injEq] at hk; subst hk; exact ⟨rds_lenR _, stays_lenR _⟩
        · simp only [Option.some.injEq] at hk; subst hk; exact ⟨rds_lenM _, stays_lenM _⟩
        · cases hk
      · cases hk
    all_goals cases hc
  case h_26 => cases hk
theorem cls_row {P : Program} {op : Op} {k : KO} (hk : cOp P op = some k) (hc : cls op = 3) : ∃ (n s : Nat) (f : Tmps → Option (List AV)), ∀ call ts h, k call ts h = (f ts).map fun cs => (.row cs n (h.newRow (n * s) s).1, (h.newRow (n * s) s).2) := by
  unfold cOp at hk
  split at hk
  all_goals (try (simp only [cls] at hc; done))
  all_goals (try (cases hc; done))
  case h_7 =>
    rename_i t0 len0 parts0
    split at hk
    · split at hk
      · split at hk
        · obtain ⟨q, h1, rfl⟩ := Option.map_eq_some_iff.1 hk
          rename_i s z hs hz hcc
          refine ⟨len0, s, fun ts => match afill (replicateCells len0 z.cells) (partsOf q ts) with | some cs => if cs.length = len0 * s then some cs else none | none => none, fun call ts h => ?_⟩
          unfold oRow
          dsimp only
          cases afill (replicateCells len0 z.cells) (partsOf q ts) with
          | none => rfl
          | some cs => by_cases hl : cs.length = len0 * s <;> simp [hl]
        · cases hk
      · cases hk
    · cases hk
  case h_25 =>
    rename_i c
    obtain ⟨callee, args, ats⟩ := c
    simp only [cls] at hc
    split at hc <;> cases hc
  case h_26 => cases hk
theorem clsZ_sil {z : Bool} {P : Program} {op : Op} {k : KO} (hk : cOpZ z P op = some k) (hc : clsZ z op = 0) : Sil k := by
  unfold cOpZ at hk
  unfold clsZ at hc
  split at hk
  · exact cls_sil hk hc
  · split at hk
    · obtain ⟨s, zs, qs, h1, rfl⟩ := rowZ_spec hk
      intro c1 c2 ts g1 g2
      simp only [oRowZ]
      split
      · split <;> rfl
      · rfl
    · rename_i hn
      simp only at hc
      exact cls_sil hk hc
theorem clsZ_rds {z : Bool} {P : Program} {op : Op} {k : KO} (hk : cOpZ z P op = some k) (hc : clsZ z op = 1) : Rds k ∧ Stays k := by
  unfold cOpZ at hk
  unfold clsZ at hc
  split at hk
  · exact cls_rds hk hc
  · split at hk
    · cases hc
    · rename_i hn
      simp only at hc
      exact cls_rds hk hc
end Go.Proofs.Ytadohhhjpbhhoaa.EvA
