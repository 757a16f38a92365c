/- An evaluator of the program's code over abstract values and an abstract heap: what was shown of a call on a heap of its own holds on any heap that has such blocks. -/
import Derived.Test.YtadohhhjpbhhoaaEvLa
namespace Go.Proofs.Ytadohhhjpbhhoaa.EvA
open Go.RowKit
set_option linter.unusedVariables false
/-- A block in other words. -/
def WkB (K : WkP) : ABlk → ABlk → Prop
  | .cells a, .cells b => Wks K a b
  | .map es c, .map fs d => d = c ∧ Wks K (es.map (·.1)) (fs.map (·.1)) ∧ Wks K (es.map (·.2.1)) (fs.map (·.2.1)) ∧ fs.map (·.2.2) = es.map (·.2.2)
  | _, _ => False
theorem WkB_ok {K : WkP} {G G' : Gh} {B : Nat → Prop} {w0 w : World} (hW : WR B w0 G K.h w) (hK : KOk K G G' w) {x x' : ABlk} (h : WkB K x x') {b : Nat} (hb : BR G w b x) : BR G' w b x' := by
  cases x with
  | cells a => cases x' with
    | cells a' =>
      obtain ⟨l, e, h1, h2⟩ := hb
      exact ⟨l, e, h1, Wks_ok hW hK h l h2⟩
    | map fs d => exact h.elim
  | map es c => cases x' with
    | cells a' => exact h.elim
    | map fs d =>
      obtain ⟨rfl, k1, k2, k3⟩ := h
      obtain ⟨l, h1, h2, h3, h4⟩ := hb
      exact ⟨l, h1, Wks_ok hW hK k1 _ h2, Wks_ok hW hK k2 _ h3, k3.trans h4⟩
/-- How a call's arguments are told: blocks by their places in a row; what lies elsewhere is not written to while the call runs. -/
def K0 (h : AH) (ps : List Nat) : WkP := ⟨h, fun i j => ps[j]? = some i, fun l l' => l' = 0 → l = 0, fun _ l => l ≠ 0, fun _ _ => False, fun _ _ => False⟩
/-- How its results are told. -/
def K1 (h H : AH) (ps ks : List Nat) : WkP := ⟨H, fun j i => ps[j]? = some i ∨ ∃ m, ks[m]? = some j ∧ i = h.next + m, fun l l' => l = 0 ∧ l' = 0, fun _ l => l = 0, fun _ _ => False, fun j l => l = 0 ∧ ps.length ≤ j ∧ j ∉ ks⟩
/-- A heap of its own. -/
structure Own0 (H : AH) (n : Nat) : Prop where
  next : H.next = n
  chain : H.chain = .leaf
  fn : H.fnext ≠ 0
def Bs (G : Gh) (w : World) (ps : List Nat) : Nat → Prop := fun b => b < w.heap.size ∧ ∀ (j i : Nat), ps[j]? = some i → G.phi i ≠ some b
def G0 (G : Gh) (h : AH) (ps : List Nat) : Gh where
  phi := fun j => (ps[j]?).bind G.phi
  rp := fun _ => none
  fam := fun _ => 0
  fz := fun l r => G.fz l r ∨ (l ≠ 0 ∧ ((∃ l, G.fz l r) ∨ ∃ i, G.rp i = some r ∧ h.live.get i = some true))
  z := fun l r => G.fz l r ∨ (l ≠ 0 ∧ ((∃ l, G.fz l r) ∨ ∃ i, G.rp i = some r ∧ h.live.get i = some true))
theorem phi0 {G : Gh} {h : AH} {ps : List Nat} {j b : Nat} : (G0 G h ps).phi j = some b ↔ ∃ i, ps[j]? = some i ∧ G.phi i = some b := by
  simp only [G0, Option.bind_eq_some_iff]
theorem K0_ok {G : Gh} {h : AH} {ps : List Nat} {w : World} : KOk (K0 h ps) G (G0 G h ps) w where
  blk := fun i j b h1 h2 => phi0.2 ⟨i, h1, h2⟩
  lev := fun l l' r h1 h2 => by
    by_cases e : l' = 0
    · have := h1 e; subst e; subst this; exact Or.inl h2
    · exact Or.inr ⟨e, Or.inl ⟨l, h2⟩⟩
  ow := fun i r l h1 h2 h3 => Or.inr ⟨h3, Or.inr ⟨i, h1, h2⟩⟩
  own := fun s s' r h => h.elim
  fr := fun i cs b l e n h => h.elim
theorem WR0 {B : Nat → Prop} {w0 w : World} {G : Gh} {h H : AH} {ps : List Nat} (hW : WR B w0 G h w) (hps : ∀ (j k i : Nat), ps[j]? = some i → ps[k]? = some i → j = k) (hH : Own0 H ps.length)
    (hget : ∀ j X, H.get j = some X → ∃ i x, ps[j]? = some i ∧ h.get i = some x ∧ WkB (K0 h ps) x X) : WR (Bs G w ps) w (G0 G h ps) H w where
  below := Bel.refl _ w
  base := fun k hk => hk.1
  phi := fun j b hb => by
    obtain ⟨i, h1, h2⟩ := phi0.1 hb
    refine ⟨by rw [hH.next]; exact (List.getElem?_eq_some_iff.1 h1).1, (hW.phi i b h2).2.1, fun hB => hB.2 j i h1 h2⟩
  inj := fun j k b h1 h2 => by
    obtain ⟨i, h3, h4⟩ := phi0.1 h1
    obtain ⟨i', h5, h6⟩ := phi0.1 h2
    obtain rfl := hW.inj _ _ _ h4 h6
    exact hps j k i h3 h5
  blk := fun j X hX => by
    obtain ⟨i, x, h1, h2, h3⟩ := hget j X hX
    obtain ⟨b, h4, h5⟩ := hW.blk i x h2
    exact ⟨b, phi0.2 ⟨i, h1, h4⟩, WkB_ok (K := K0 h ps) hW K0_ok h3 h5⟩
  rp := fun i r h => by cases h
  row := fun i r h => by cases h
  own := fun i r h => by cases h
  chain := fun i r h => by cases h
  same := fun i j r s h => by cases h
  sorted := fun f => by rw [hH.chain]; exact List.Pairwise.nil
  org := fun i r h => by cases h
  nz := fun i r h => by cases h
  fn := hH.fn
  fz := fun l r hr => by
    have key : (∃ l, G.fz l r) ∨ ∃ i, G.rp i = some r ∧ h.live.get i = some true := by
      rcases hr with h1 | ⟨_, h1⟩
      · exact Or.inl ⟨l, h1⟩
      · exact h1
    have k2 : r.b < w.heap.size ∧ (∀ j, G.phi j ≠ some r.b) ∧ r.base ≤ r.org ∧ ∃ c e f, w.heap[r.b]? = some (.cells c e f) ∧ c.size = r.n ∧ ∀ j v, r.vs[j]? = some v → c[r.org - r.base + j]? = some v := by
      rcases key with ⟨l, h1⟩ | ⟨i, h1, h2⟩
      · obtain ⟨f1, f2, f3, f4, f5⟩ := hW.fz l r h1; exact ⟨f1, f2, f4, f5⟩
      · obtain ⟨q1, q2, q3, q4⟩ := hW.rp i r h1
        exact ⟨q2, q4, hW.org i r h1, hW.row i r h1 (Or.inr h2)⟩
    obtain ⟨f1, f2, f4, f5⟩ := k2
    exact ⟨f1, fun j hj => (by obtain ⟨i, _, h2⟩ := phi0.1 hj; exact f2 i h2), fun i q h => (by cases h), f4, f5⟩
  fo := fun l r hr => Or.inl hr
/-- A row that nobody writes to behind a call. -/
def NF (w w' : World) (G1 : Gh) (ks : List Nat) (r : RP) : Prop :=
  w.heap.size ≤ r.b ∧ r.b < w'.heap.size ∧ (∀ (m j : Nat), ks[m]? = some j → G1.phi j ≠ some r.b) ∧ r.base ≤ r.org ∧ ∃ c e f, w'.heap[r.b]? = some (.cells c e f) ∧ c.size = r.n ∧ ∀ j v, r.vs[j]? = some v → c[r.org - r.base + j]? = some v
def G2 (w w' : World) (G G1 : Gh) (h : AH) (ks : List Nat) : Gh where
  phi := fun i => if i < h.next then G.phi i else (ks[i - h.next]?).bind G1.phi
  rp := G.rp
  fam := G.fam
  fz := fun l r => G.fz l r ∨ (l = 0 ∧ NF w w' G1 ks r)
  z := G.z
/-- A call on any heap that has such blocks. -/
structure Lifts (h H H' h' : AH) (ps ks : List Nat) (args a0 : List AV) (u v : AV) : Prop where
  inj : ∀ (j k i : Nat), ps[j]? = some i → ps[k]? = some i → j = k
  there : ∀ (j i : Nat), ps[j]? = some i → ∃ x, h.get i = some x
  own : Own0 H ps.length
  get : ∀ j X, H.get j = some X → ∃ i x, ps[j]? = some i ∧ h.get i = some x ∧ WkB (K0 h ps) x X
  args : Wks (K0 h ps) args a0
  kinj : ∀ (j k i : Nat), ks[j]? = some i → ks[k]? = some i → j = k
  fresh : ∀ (m j : Nat), ks[m]? = some j → ps.length ≤ j
  next : h'.next = h.next + ks.length
  rnext : h'.rnext = h.rnext
  live : h'.live = h.live
  fnext : h'.fnext = h.fnext
  chain : h'.chain = h.chain
  get' : ∀ i x', h'.get i = some x' → ((∀ j : Nat, ps[j]? ≠ some i) ∧ h.get i = some x') ∨ ∃ j x, (K1 h H' ps ks).blk j i ∧ H'.get j = some x ∧ WkB (K1 h H' ps ks) x x'
  res : Wk (K1 h H' ps ks) u v
theorem lift0 {h H H' h' : AH} {ps ks : List Nat} {args a0 : List AV} {u v : AV} (L : Lifts h H H' h' ps ks args a0 u v) {B : Nat → Prop} {w0 w w' : World} {G G1 : Gh} (hW : WR B w0 G h w) (hg : Gle (G0 G h ps) G1) (hW1 : WR (Bs G w ps) w G1 H' w') {x : Value} (hx : VR G1 u x) :
    ∃ G', Gle G G' ∧ VR G' v x ∧ WR B w0 G' h' w' := by
  have hbel := hW1.below
  have hsz := hbel.size
  -- a block that is no argument's is as it was
  have old : ∀ b, b < w.heap.size → (∀ (j i : Nat), ps[j]? = some i → G.phi i ≠ some b) → w'.heap[b]? = w.heap[b]? := fun b h1 h2 => hbel.block b ⟨h1, h2⟩
  -- a block of an argument
  have par : ∀ (j i b : Nat), ps[j]? = some i → G.phi i = some b → G1.phi j = some b := fun j i b h1 h2 => hg.phi j b (phi0.2 ⟨i, h1, h2⟩)
  -- a block that is not untouched is new, or an argument's
  have new : ∀ b, ¬ Bs G w ps b → w.heap.size ≤ b ∨ ∃ (j i : Nat), ps[j]? = some i ∧ G.phi i = some b := by
    intro b hb
    rcases Nat.lt_or_ge b w.heap.size with h1 | h1
    · refine Or.inr (Classical.byContradiction fun hn => hb ⟨h1, fun j i h2 h3 => hn ⟨j, i, h2, h3⟩⟩)
    · exact Or.inl h1
  have plt : ∀ (j i : Nat), ps[j]? = some i → j < ps.length := fun j i h1 => (List.getElem?_eq_some_iff.1 h1).1
  have hps : ∀ (j i : Nat), ps[j]? = some i → ∃ b, G.phi i = some b ∧ i < h.next := by
    intro j i h1
    obtain ⟨x, hx⟩ := L.there j i h1
    obtain ⟨b, h2, _⟩ := hW.blk i x hx
    exact ⟨b, h2, (hW.phi i b h2).1⟩
  -- kept blocks are new
  have kept : ∀ (m j b : Nat), ks[m]? = some j → G1.phi j = some b → w.heap.size ≤ b := by
    intro m j b h1 h2
    rcases new b (hW1.phi j b h2).2.2 with h3 | ⟨k, i, h3, h4⟩
    · exact h3
    · have := hW1.inj _ _ _ h2 (par k i b h3 h4)
      subst this
      have := plt _ _ h3
      have := L.fresh m j h1
      omega
  have phi2 : ∀ i b, (G2 w w' G G1 h ks).phi i = some b → (i < h.next ∧ G.phi i = some b) ∨ ∃ (m j : Nat), ks[m]? = some j ∧ i = h.next + m ∧ G1.phi j = some b := by
    intro i b hb
    simp only [G2] at hb
    split at hb
    · rename_i hi; exact Or.inl ⟨hi, hb⟩
    · rename_i hi
      obtain ⟨j, h1, h2⟩ := Option.bind_eq_some_iff.1 hb
      exact Or.inr ⟨i - h.next, j, h1, by omega, h2⟩
  have phiO : ∀ i b, G.phi i = some b → (G2 w w' G G1 h ks).phi i = some b := by
    intro i b hb
    simp only [G2]; rw [if_pos (hW.phi i b hb).1]; exact hb
  have phiN : ∀ (m j b : Nat), ks[m]? = some j → G1.phi j = some b → (G2 w w' G G1 h ks).phi (h.next + m) = some b := by
    intro m j b h1 h2
    simp only [G2]; rw [if_neg (by omega), Nat.add_sub_cancel_left, h1]; exact h2
  have gle : Gle G (G2 w w' G G1 h ks) := ⟨phiO, fun _ _ h1 => h1, fun _ _ _ => rfl, fun _ _ h1 => Or.inl h1, rfl⟩
  have nf : ∀ r, w.heap.size ≤ r.b → r.b < w'.heap.size → (∀ (m j : Nat), ks[m]? = some j → G1.phi j ≠ some r.b) → r.base ≤ r.org → (∃ c e f, w'.heap[r.b]? = some (.cells c e f) ∧ c.size = r.n ∧ ∀ j v, r.vs[j]? = some v → c[r.org - r.base + j]? = some v) → (G2 w w' G G1 h ks).fz 0 r :=
    fun r h1 h2 h3 h4 h5 => Or.inr ⟨rfl, h1, h2, h3, h4, h5⟩
  have hK : KOk (K1 h H' ps ks) G1 (G2 w w' G G1 h ks) w' := by
    refine ⟨?_, ?_, ?_, fun s s' r h1 => h1.elim, ?_⟩
    · intro j i b h1 h2
      rcases h1 with h1 | ⟨m, h1, rfl⟩
      · obtain ⟨b', h3, h4⟩ := hps j i h1
        have : b' = b := Option.some.inj ((par j i b' h1 h3).symm.trans h2)
        subst this
        exact phiO i b' h3
      · exact phiN m j b h1 h2
    · rintro l l' r ⟨rfl, rfl⟩ h1
      obtain ⟨f1, f2, f3, f4, f5⟩ := hW1.fz 0 r h1
      rcases hW1.fo 0 r h1 with h2 | h2
      · rw [hg.z] at h2
        rcases h2 with h2 | ⟨h2, _⟩
        · exact Or.inl h2
        · exact absurd rfl h2
      · exact nf r h2 f1 (fun m j _ => f2 j) f4 f5
    · intro i r l h1 h2 h3
      have h3 : l = 0 := h3
      subst h3
      obtain ⟨q1, q2, q3, q4⟩ := hW1.rp i r h1
      have hne := hW1.nz i r h1
      refine nf r ?_ q2 (fun m j _ => q4 j) (hW1.org i r h1) (hW1.row i r h1 (Or.inr h2))
      rcases new r.b (hW1.own i r h1 hne).1 with h3 | ⟨j, i', h3, h4⟩
      · exact h3
      · exact absurd (par j i' _ h3 h4) (q4 j)
    · rintro j cs b l e n ⟨rfl, h1, h2⟩ h3 h4 h5
      have hb := hW1.phi j b h4
      refine nf ⟨b, 0, 0, l, l.length⟩ ?_ hb.2.1 ?_ (Nat.le_refl _) ⟨⟨l⟩, e, (0, 0), h5, rfl, fun k v hk => by simpa using hk⟩
      · rcases new b hb.2.2 with h6 | ⟨k, i, h6, h7⟩
        · exact h6
        · have := hW1.inj _ _ _ h4 (par k i b h6 h7)
          subst this
          have := plt _ _ h6
          omega
      · intro m k hk hb2
        have := hW1.inj _ _ _ h4 hb2
        subst this
        exact h2 (List.mem_of_getElem? hk)
  refine ⟨G2 w w' G G1 h ks, gle, Wk_ok hW1 hK L.res x hx, ?_⟩
  refine ⟨hW.below.trans (hbel.mono fun k hk => ⟨hW.lt k hk, fun j i h1 h2 => (hW.phi i k h2).2.2 hk⟩), hW.base, ?_, ?_, ?_, ?_, ?_, ?_, ?_, hW.same, ?_, hW.org, hW.nz, ?_, ?_, ?_⟩
  · intro i b hb
    rw [L.next]
    rcases phi2 i b hb with ⟨h1, h2⟩ | ⟨m, j, h1, rfl, h2⟩
    · obtain ⟨g1, g2, g3⟩ := hW.phi i b h2
      exact ⟨by omega, by omega, g3⟩
    · have := (List.getElem?_eq_some_iff.1 h1).1
      refine ⟨by omega, (hW1.phi j b h2).2.1, fun hB => ?_⟩
      have := hW.lt b hB
      have := kept m j b h1 h2
      omega
  · intro i j b hi hj
    rcases phi2 i b hi with ⟨h1, h2⟩ | ⟨m, k, h1, rfl, h2⟩ <;> rcases phi2 j b hj with ⟨h3, h4⟩ | ⟨m', k', h3, rfl, h4⟩
    · exact hW.inj i j b h2 h4
    · have := (hW.phi i b h2).2.1
      have := kept _ _ _ h3 h4
      omega
    · have := (hW.phi j b h4).2.1
      have := kept _ _ _ h1 h2
      omega
    · have := hW1.inj _ _ _ h2 h4
      subst this
      rw [L.kinj _ _ _ h1 h3]
  · intro i x' hx'
    rcases L.get' i x' hx' with ⟨h1, h2⟩ | ⟨j, x, h1, h2, h3⟩
    · obtain ⟨b, h4, h5⟩ := hW.blk i x' h2
      refine ⟨b, phiO i b h4, BR_mono gle (old b (hW.phi i b h4).2.1 ?_) h5⟩
      intro j k h6 h7
      have := hW.inj _ _ _ h7 h4
      subst this
      exact h1 j h6
    · obtain ⟨b, h4, h5⟩ := hW1.blk j x h2
      exact ⟨b, hK.blk j i b h1 h4, WkB_ok (K := K1 h H' ps ks) hW1 hK h3 h5⟩
  · intro i r hr
    obtain ⟨q1, q2, q3, q4⟩ := hW.rp i r hr
    refine ⟨by rw [L.rnext]; exact q1, by omega, by rw [L.fnext]; exact q3, fun j hj => ?_⟩
    rcases phi2 j _ hj with ⟨h1, h2⟩ | ⟨m, k, h1, rfl, h2⟩
    · exact q4 j h2
    · have := kept _ _ _ h1 h2
      omega
  · intro i r hr hl
    rw [L.live] at hl
    obtain ⟨q1, q2, q3, q4⟩ := hW.rp i r hr
    obtain ⟨c, e, f, h1, h2, h3⟩ := hW.row i r hr hl
    exact ⟨c, e, f, (old r.b q2 fun j k _ => q4 k).trans h1, h2, h3⟩
  · intro i r hr hf
    obtain ⟨q1, q2, q3, q4⟩ := hW.rp i r hr
    obtain ⟨h1, c, e, h2, h3⟩ := hW.own i r hr hf
    exact ⟨h1, c, e, (old r.b q2 fun j k _ => q4 k).trans h2, h3⟩
  · rw [L.live, L.chain]; exact hW.chain
  · rw [L.chain]; exact hW.sorted
  · rw [L.fnext]; exact hW.fn
  · intro l r hr
    rcases hr with hr | ⟨rfl, h1, h2, h3, h4, h5⟩
    · obtain ⟨f1, f2, f3, f4, c, e, f, f5, f6⟩ := hW.fz l r hr
      refine ⟨by omega, fun j hj => ?_, f3, f4, c, e, f, (old r.b f1 fun j k _ => f2 k).trans f5, f6⟩
      rcases phi2 j _ hj with ⟨g1, g2⟩ | ⟨m, k, g1, rfl, g2⟩
      · exact f2 j g2
      · have := kept _ _ _ g1 g2
        omega
    · refine ⟨h2, fun j hj => ?_, fun i q hq hb => ?_, h4, h5⟩
      · rcases phi2 j _ hj with ⟨g1, g2⟩ | ⟨m, k, g1, rfl, g2⟩
        · have := (hW.phi j _ g2).2.1
          omega
        · exact h3 m k g1 g2
      · have := (hW.rp i q hq).2.1
        omega
  · intro l r hr
    rcases hr with hr | ⟨rfl, h1, _⟩
    · exact hW.fo l r hr
    · have := hW.below.size
      exact Or.inr (by omega)
end Go.Proofs.Ytadohhhjpbhhoaa.EvA
