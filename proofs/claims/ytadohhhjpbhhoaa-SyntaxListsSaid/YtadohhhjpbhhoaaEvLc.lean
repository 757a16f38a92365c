/- Walks: what is known of temporaries and of the heap, step by step. -/
import Derived.Test.YtadohhhjpbhhoaaEvLb
namespace Go.Proofs.Ytadohhhjpbhhoaa.EvA
open Go.RowKit
set_option linter.unusedVariables false
/-! What is known of the temporaries. -/
abbrev Env := List (Nat × AV)
def lk : Env → Nat → Option AV
  | [], _ => none
  | (k, v) :: e, j => match Nat.beq k j with
    | true => some v
    | false => lk e j
def Rp (L : Nat) (ts : Tmps) (e : Env) : Prop := ts.length = L ∧ ∀ k v, lk e k = some v → nth ts k = v
theorem lk_cons {k j : Nat} {v : AV} {e : Env} : lk ((k, v) :: e) j = if k = j then some v else lk e j := by
  by_cases h : k = j
  · subst h
    have : Nat.beq k k = true := Nat.beq_refl k
    simp only [lk, this, if_true]
  · have : Nat.beq k j = false := by
      cases e : Nat.beq k j with
      | false => rfl
      | true => exact absurd (Nat.eq_of_beq_eq_true e) h
    simp only [lk, this, if_neg h]
theorem Rp.upd {L : Nat} {ts : Tmps} {e : Env} (h : Rp L ts e) {d : Nat} (hd : Nat.blt d L = true) (v : AV) : Rp L (upd ts v d) ((d, v) :: e) := by
  have hlt : d < ts.length := by rw [h.1]; exact Nat.le_of_ble_eq_true hd
  refine ⟨by rw [upd_set, List.length_set]; exact h.1, fun k u hk => ?_⟩
  rw [lk_cons] at hk
  rw [upd_set, nth_getD, List.getD_eq_getElem?_getD, List.getElem?_set]
  by_cases hk2 : d = k
  · subst hk2
    rw [if_pos rfl] at hk
    obtain rfl := Option.some.inj hk
    rw [if_pos rfl, if_pos hlt]; rfl
  · rw [if_neg hk2] at hk
    rw [if_neg hk2, ← List.getD_eq_getElem?_getD, ← nth_getD]
    exact h.2 k u hk
/-- An operand. -/
def XV (e : Env) (x : AX) (v : AV) : Prop := ∀ L ts, Rp L ts e → x ts = v
theorem xt {e : Env} {t : Nat} {v : AV} (h : lk e t = some v) : XV e (xT t) v := fun L ts hR => hR.2 t v h
theorem xc {e : Env} {v : AV} : XV e (xC v) v := fun L ts hR => rfl
theorem xf {e : Env} {f : FuncId} : XV e (xF f) (.fn f []) := fun L ts hR => rfl
inductive XVs (e : Env) : List AX → List AV → Prop
  | nil : XVs e [] []
  | cons {x : AX} {v : AV} {l : List AX} {m : List AV} : XV e x v → XVs e l m → XVs e (x :: l) (v :: m)
theorem XVs.vals {e : Env} {l : List AX} {m : List AV} (h : XVs e l m) {L : Nat} {ts : Tmps} (hR : Rp L ts e) : vals l ts = m := by
  induction h with
  | nil => rfl
  | cons hx _ ih =>
    show (_ :: EvA.vals _ ts) = _
    rw [ih, hx L ts hR]
inductive XPs (e : Env) : List (Nat × Nat × AX) → List (Nat × Nat × AV) → Prop
  | nil : XPs e [] []
  | cons {a b : Nat} {x : AX} {v : AV} {l : List (Nat × Nat × AX)} {m : List (Nat × Nat × AV)} : XV e x v → XPs e l m → XPs e ((a, b, x) :: l) ((a, b, v) :: m)
theorem XPs.vals {e : Env} {l : List (Nat × Nat × AX)} {m : List (Nat × Nat × AV)} (h : XPs e l m) {L : Nat} {ts : Tmps} (hR : Rp L ts e) : partsOf l ts = m := by
  induction h with
  | nil => rfl
  | cons hx _ ih =>
    simp only [partsOf, List.map_cons] at ih ⊢
    rw [ih, hx L ts hR]
inductive XO (e : Env) : Option AX → Option AV → Prop
  | none : XO e none none
  | some {x : AX} {v : AV} : XV e x v → XO e (some x) (some v)
theorem XO.opt {e : Env} {l : Option AX} {m : Option AV} (h : XO e l m) {L : Nat} {ts : Tmps} (hR : Rp L ts e) : opt l ts = m := by
  cases h with
  | none => rfl
  | some hx => simp only [EvA.opt, hx L ts hR]
/-! What is known of the heap: blocks; rows of one's own that nobody has a longer part of. -/
inductive Fact where
  | blk (i : Nat) (b : ABlk)
  | row (f id e : Nat)
def Holds (h : AH) : Fact → Prop
  | .blk i b => h.get i = some b ∧ i < h.next
  | .row f id e => f ≠ 0 ∧ f < h.fnext ∧ id < h.rnext ∧ h.live.get id = some true ∧ (∀ x ∈ (h.chain.get f).getD [], x.2 ≤ e) ∧ ∀ g, g ≠ f → ∀ x ∈ (h.chain.get g).getD [], x.1 ≠ id
def Fact.key : Fact → Nat × Nat
  | .blk i _ => (0, i)
  | .row f _ _ => (1, f)
structure RH (h : AH) (fs : List Fact) : Prop where
  holds : ∀ x ∈ fs, Holds h x
  nodup : (fs.map Fact.key).Nodup
  fn : h.fnext ≠ 0
  cid : ∀ f, ∀ x ∈ (h.chain.get f).getD [], x.1 < h.rnext
  srt : ∀ f, ((h.chain.get f).getD []).Pairwise fun x y => y.2 ≤ x.2
inductive Has : List Fact → Fact → Prop
  | here {x : Fact} {r : List Fact} : Has (x :: r) x
  | there {x y : Fact} {r : List Fact} : Has r x → Has (y :: r) x
theorem Has.mem {fs : List Fact} {x : Fact} (h : Has fs x) : x ∈ fs := by
  induction h with
  | here => exact List.mem_cons_self ..
  | there _ ih => exact List.mem_cons_of_mem _ ih
/-- One of them is another one now. -/
inductive Put : List Fact → Fact → Fact → List Fact → Prop
  | here {x y : Fact} {r : List Fact} : Put (x :: r) x y (y :: r)
  | there {x y z : Fact} {r r' : List Fact} : Put r x y r' → Put (z :: r) x y (z :: r')
theorem Put.has {fs fs' : List Fact} {x y : Fact} (h : Put fs x y fs') : Has fs x := by
  induction h with
  | here => exact .here
  | there _ ih => exact .there ih
theorem Put.keys {fs fs' : List Fact} {x y : Fact} (h : Put fs x y fs') (hk : y.key = x.key) : fs'.map Fact.key = fs.map Fact.key := by
  induction h with
  | here => simp [hk]
  | there _ ih => simp [ih hk]
theorem Put.mem {fs fs' : List Fact} {x y : Fact} (h : Put fs x y fs') (hn : (fs.map Fact.key).Nodup) : ∀ z ∈ fs', z = y ∨ (z ∈ fs ∧ z.key ≠ x.key) := by
  induction h with
  | here =>
    intro z hz
    rw [List.map_cons, List.nodup_cons] at hn
    rcases List.mem_cons.1 hz with h1 | h1
    · exact Or.inl h1
    · exact Or.inr ⟨List.mem_cons_of_mem _ h1, fun e => hn.1 (List.mem_map.2 ⟨z, h1, e⟩)⟩
  | there hp ih =>
    intro z hz
    rw [List.map_cons, List.nodup_cons] at hn
    rcases List.mem_cons.1 hz with h1 | h1
    · subst h1
      exact Or.inr ⟨List.mem_cons_self .., fun e => hn.1 (List.mem_map.2 ⟨_, hp.has.mem, e.symm⟩)⟩
    · rcases ih hn.2 z h1 with h2 | ⟨h2, h3⟩
      · exact Or.inl h2
      · exact Or.inr ⟨List.mem_cons_of_mem _ h2, h3⟩
theorem RH.get {h : AH} {fs : List Fact} (hH : RH h fs) {i : Nat} {b : ABlk} (hi : Has fs (.blk i b)) : h.get i = some b := (hH.holds _ hi.mem).1
theorem RH.ok {h : AH} {fs : List Fact} (hH : RH h fs) {s : Src} {e : Nat} (hi : Has fs (.row s.fam s.id e)) : h.ok s = true := by
  obtain ⟨h1, h2, h3, h4, h5, _⟩ := hH.holds _ hi.mem
  simp only [AH.ok, h4, Option.getD_some, Bool.or_true]
theorem RH.put {h : AH} {fs fs' : List Fact} (hH : RH h fs) {i : Nat} {b b' : ABlk} (hp : Put fs (.blk i b) (.blk i b') fs') : RH (h.put i b') fs' := by
  refine ⟨fun x hx => ?_, by rw [hp.keys rfl]; exact hH.nodup, hH.fn, hH.cid, hH.srt⟩
  rcases hp.mem hH.nodup x hx with rfl | ⟨h1, h2⟩
  · exact ⟨by rw [get_put, if_pos rfl], (hH.holds _ hp.has.mem).2⟩
  · have := hH.holds x h1
    cases x with
    | blk j c =>
      refine ⟨?_, this.2⟩
      rw [get_put, if_neg (by intro e; subst e; exact h2 rfl)]; exact this.1
    | row f id e => exact this
theorem RH.new {h : AH} {fs : List Fact} (hH : RH h fs) (b : ABlk) : RH (h.new b) (.blk h.next b :: fs) := by
  refine ⟨fun x hx => ?_, ?_, hH.fn, hH.cid, hH.srt⟩
  · rcases List.mem_cons.1 hx with rfl | hx
    · exact ⟨by rw [get_new, if_pos rfl], Nat.lt_succ_self _⟩
    · have := hH.holds x hx
      cases x with
      | blk j c => exact ⟨by rw [get_new, if_neg (by have := this.2; omega)]; exact this.1, Nat.lt_succ_of_lt this.2⟩
      | row f id e => exact this
  · rw [List.map_cons, List.nodup_cons]
    refine ⟨fun hm => ?_, hH.nodup⟩
    obtain ⟨x, hx, hk⟩ := List.mem_map.1 hm
    have := hH.holds x hx
    cases x with
    | blk j c =>
      have hj : j = h.next := congrArg Prod.snd hk
      have := this.2; omega
    | row f id e => cases hk
theorem RH.newRow {h : AH} {fs : List Fact} (hH : RH h fs) (n size : Nat) : RH (h.newRow n size).2 (.row h.fnext h.rnext n :: fs) := by
  have ch : ∀ g, (((h.newRow n size).2).chain.get g).getD [] = if g = h.fnext then [(h.rnext, n)] else (h.chain.get g).getD [] := by
    intro g
    show ((h.chain.set (h.fnext + 1) h.fnext [(h.rnext, n)]).get g).getD [] = _
    by_cases hg : g = h.fnext
    · subst hg; rw [if_pos rfl, Tr.get_set_same _ _ _ _ (by omega)]; rfl
    · rw [if_neg hg, Tr.get_set_ne _ _ _ _ _ hg]
  refine ⟨fun x hx => ?_, ?_, Nat.succ_ne_zero _, fun f x hx => ?_, fun f => ?_⟩
  · rcases List.mem_cons.1 hx with rfl | hx
    · refine ⟨hH.fn, Nat.lt_succ_self _, Nat.lt_succ_self _, ?_, ?_, ?_⟩
      · show (h.live.set (h.rnext + 1) h.rnext true).get h.rnext = some true
        rw [Tr.get_set_same _ _ _ _ (by omega)]
      · rw [ch, if_pos rfl]
        intro x hx
        simp at hx; subst hx; exact Nat.le_refl _
      · intro g hg x hx
        rw [ch, if_neg hg] at hx
        have := hH.cid g x hx; omega
    · have := hH.holds x hx
      cases x with
      | blk j c => exact this
      | row f id e =>
        obtain ⟨h1, h2, h3, h4, h5, h6⟩ := this
        refine ⟨h1, Nat.lt_succ_of_lt h2, Nat.lt_succ_of_lt h3, ?_, ?_, ?_⟩
        · show (h.live.set (h.rnext + 1) h.rnext true).get id = some true
          rw [Tr.get_set_ne _ _ _ _ _ (by omega)]; exact h4
        · rw [ch, if_neg (by omega)]; exact h5
        · intro g hg x hx
          rw [ch] at hx
          split at hx
          · simp at hx; subst hx; simp only; omega
          · exact h6 g hg x hx
  · rw [List.map_cons, List.nodup_cons]
    refine ⟨fun hm => ?_, hH.nodup⟩
    obtain ⟨x, hx, hk⟩ := List.mem_map.1 hm
    have := hH.holds x hx
    cases x with
    | blk j c => cases hk
    | row f id e =>
      have hj : f = h.fnext := congrArg Prod.snd hk
      have := this.2.1; omega
  · rw [ch] at hx
    show x.1 < h.rnext + 1
    split at hx
    · simp at hx; subst hx; exact Nat.lt_succ_self _
    · have := hH.cid f x hx; omega
  · rw [ch]
    split
    · simp
    · exact hH.srt f
theorem takeWhile_nil {α : Type} {p : α → Bool} : ∀ {l : List α}, (∀ x ∈ l, p x = false) → l.takeWhile p = [] ∧ l.dropWhile p = l
  | [], _ => ⟨rfl, rfl⟩
  | a :: l, h => by
    have := h a (List.mem_cons_self ..)
    constructor
    · rw [List.takeWhile_cons, this]; rfl
    · rw [List.dropWhile_cons, this]; rfl
theorem drop_ends {α : Type} {p : α → Bool} : ∀ {l : List α} {x : α}, x ∈ l.dropWhile p → x ∈ l := fun h => (List.dropWhile_sublist _).subset h
theorem killAll_lv {i : Nat} {l : List (Nat × Nat)} {t : Tr Bool} (h : ∀ x ∈ l, x.1 ≠ i) : (killAll t l).get i = t.get i := killAll_ne l t h
/-- What is appended to a row of which there was a longer part, which is dead now. -/
theorem RH.regrow {h : AH} {fs fs' : List Fact} (hH : RH h fs) {s : Src} {e m : Nat} (n : Nat) (hp : Put fs (.row s.fam s.id m) (.row s.fam h.rnext (e + n)) fs') : RH (h.grow s e n).2 fs' := by
  obtain ⟨g1, g2, g3, g4, g5, g6⟩ := hH.holds _ hp.has.mem
  have ch : ∀ g, (((h.grow s e n).2).chain.get g).getD [] = if g = s.fam then (h.rnext, e + n) :: ((h.chain.get s.fam).getD []).dropWhile (fun x => decide (e < x.2)) else (h.chain.get g).getD [] := by
    intro g
    show ((h.chain.set (s.fam + 1) s.fam ((h.rnext, e + n) :: ((h.chain.get s.fam).getD []).dropWhile (fun x => decide (e < x.2)))).get g).getD [] = _
    by_cases hg : g = s.fam
    · subst hg; rw [if_pos rfl, Tr.get_set_same _ _ _ _ (by omega)]; rfl
    · rw [if_neg hg, Tr.get_set_ne _ _ _ _ _ hg]
  refine ⟨fun x hx => ?_, by rw [hp.keys rfl]; exact hH.nodup, hH.fn, fun f x hx => ?_, fun f => ?_⟩
  · rcases hp.mem hH.nodup x hx with rfl | ⟨h1, h2⟩
    · refine ⟨g1, g2, Nat.lt_succ_self _, ?_, ?_, ?_⟩
      · show ((killAll h.live _).set (h.rnext + 1) h.rnext true).get h.rnext = some true
        rw [Tr.get_set_same _ _ _ _ (by omega)]
      · rw [ch, if_pos rfl]
        intro x hx
        rcases List.mem_cons.1 hx with rfl | hx
        · exact Nat.le_refl _
        · exact Nat.le_trans (drop_le (f := fun x : Nat × Nat => x.2) (hH.srt s.fam) x hx) (Nat.le_add_right _ _)
      · intro g hg x hx
        rw [ch, if_neg hg] at hx
        have := hH.cid g x hx; omega
    · have := hH.holds x h1
      cases x with
      | blk j c => exact this
      | row f id e' =>
        obtain ⟨k1, k2, k3, k4, k5, k6⟩ := this
        have hf : f ≠ s.fam := fun e => h2 (by simp only [Fact.key, e])
        refine ⟨k1, k2, Nat.lt_succ_of_lt k3, ?_, ?_, ?_⟩
        · show ((killAll h.live _).set (h.rnext + 1) h.rnext true).get id = some true
          rw [Tr.get_set_ne _ _ _ _ _ (by omega), killAll_lv fun x hx => k6 s.fam (Ne.symm hf) x ((List.takeWhile_sublist _).subset hx)]
          exact k4
        · rw [ch, if_neg hf]; exact k5
        · intro g hg x hx
          rw [ch] at hx
          split at hx
          · rename_i hgf
            rcases List.mem_cons.1 hx with rfl | hx
            · simp only; omega
            · exact k6 s.fam (Ne.symm hf) x (drop_ends hx)
          · exact k6 g hg x hx
  · rw [ch] at hx
    show x.1 < h.rnext + 1
    split at hx
    · rcases List.mem_cons.1 hx with rfl | hx
      · exact Nat.lt_succ_self _
      · have := hH.cid s.fam x (drop_ends hx); omega
    · have := hH.cid f x hx; omega
  · rw [ch]
    split
    · refine List.pairwise_cons.2 ⟨fun x hx => Nat.le_trans (drop_le (f := fun x : Nat × Nat => x.2) (hH.srt s.fam) x hx) (Nat.le_add_right _ _), pair_drop (hH.srt s.fam)⟩
    · exact hH.srt f
theorem RH.grow {h : AH} {fs fs' : List Fact} (hH : RH h fs) {s : Src} {e : Nat} (n : Nat) (hp : Put fs (.row s.fam s.id e) (.row s.fam h.rnext (e + n)) fs') : RH (h.grow s e n).2 fs' :=
  hH.regrow n hp
/-- Less is known. -/
theorem RH.mono {h : AH} {fs fs' : List Fact} (hH : RH h fs) (hs : fs'.Sublist fs) : RH h fs' :=
  ⟨fun x hx => hH.holds x (hs.subset hx), hH.nodup.sublist (hs.map _), hH.fn, hH.cid, hH.srt⟩
theorem RH.perm {h : AH} {fs fs' : List Fact} (hH : RH h fs) (hs : fs.Perm fs') : RH h fs' :=
  ⟨fun x hx => hH.holds x (hs.mem_iff.2 hx), (hs.map _).nodup_iff.1 hH.nodup, hH.fn, hH.cid, hH.srt⟩
end Go.Proofs.Ytadohhhjpbhhoaa.EvA
