/- An evaluator of the program's code over abstract values and an abstract heap: how they stand for the model's values and worlds. -/
import Derived.Test.YtadohhhjpbhhoaaEvC
import Derived.Below
namespace Go.Proofs.Ytadohhhjpbhhoaa.EvA
open Go.RowKit
set_option linter.unusedVariables false

/-- Where a row lies: its block; the family's count of the block's first cell; the count of the row's first cell; its cells' values; how many cells the block has. -/
structure RP where
  b : Nat
  base : Nat
  org : Nat
  vs : List Value
  n : Nat
/-- What stands for what: blocks, rows, a row's family. -/
structure Gh where
  phi : Nat → Option Nat
  rp : Nat → Option RP
  fam : Nat → Nat
  fz : Nat → RP → Prop
  z : Nat → RP → Prop
/-- Where a row's cells lie: at a place that nobody writes to any more (family 0; 'id' says how long: 0: for ever; 2: for a while, and the row is not nil), or at its own. -/
def Hd (G : Gh) (s : Src) (r : RP) (p : Nat) : Prop := (s.fam = 0 ∧ G.fz s.id r) ∨ (s.fam ≠ 0 ∧ s.fam = G.fam s.id ∧ G.rp s.id = some r ∧ p = s.pos)
mutual
def VR (G : Gh) : AV → Value → Prop
  | .bool b, v => v = .bool b
  | .int k n, v => v = .int k n
  | .str s, v => v = .string s
  | .nilptr, v => v = .pointer none
  | .ptr i o, v => ∃ b, G.phi i = some b ∧ v = .pointer (some ⟨b, o, none⟩)
  | .eptr cs o s, v => ∃ r p, Hd G s r p ∧ r.base ≤ r.org ∧ r.org ≤ p ∧ p - r.org + cs.length ≤ r.vs.length ∧ VRs G cs ((r.vs.drop (p - r.org)).take cs.length) ∧ v = .pointer (some ⟨r.b, p - r.base + o, none⟩)
  | .nilrow, v => v = .slice none 0 0
  | .row cs len s, v => cs.length = len * s.size ∧ 0 < s.size ∧ ((s.fam = 0 ∧ len = 0 ∧ ∃ a cap, v = .slice a 0 cap ∧ (s.id = 2 → a ≠ none)) ∨ ∃ r p a cap, Hd G s r p ∧ v = .slice (some a) len cap ∧ r.base ≤ r.org ∧ r.org ≤ p ∧ p - r.org + cs.length ≤ r.vs.length ∧ len ≤ cap ∧
      VRs G cs ((r.vs.drop (p - r.org)).take cs.length) ∧ (cap = 0 ∨ (a = ⟨r.b, p - r.base, none⟩ ∧ (s.fam = 0 ∨ p - r.base + cap * s.size ≤ r.n))))
  | .nilmap, v => v = .map none
  | .map i, v => ∃ b, G.phi i = some b ∧ v = .map (some b)
  | .nilfn, v => v = .nilFunc
  | .fn f cs, v => ∃ l, v = .func (.func f) #[] ⟨l⟩ ∧ VRs G cs l
  | .niliface, v => v = .nilIface
  | .iface t x, v => ∃ u, v = .iface t u ∧ VR G x u
  | .agg cs, v => ∃ l, v = .agg ⟨l⟩ ∧ VRs G cs l
  | .tup cs, v => ∃ l, v = .tuple ⟨l⟩ ∧ VRs G cs l
  | .mfn f cs, v => ∃ l, v = .func (.func f) ⟨l⟩ #[] ∧ VRs G cs l
def VRs (G : Gh) : List AV → List Value → Prop
  | [], l => l = []
  | a :: r, l => ∃ v m, l = v :: m ∧ VR G a v ∧ VRs G r m
end
/-- More is known. -/
structure Gle (G G' : Gh) : Prop where
  phi : ∀ i b, G.phi i = some b → G'.phi i = some b
  rp : ∀ i r, G.rp i = some r → G'.rp i = some r
  fam : ∀ i r, G.rp i = some r → G'.fam i = G.fam i
  fz : ∀ l r, G.fz l r → G'.fz l r
  z : G'.z = G.z
theorem Gle.refl (G : Gh) : Gle G G := ⟨fun _ _ h => h, fun _ _ h => h, fun _ _ _ => rfl, fun _ _ h => h, rfl⟩
theorem Gle.trans {A B C : Gh} (h : Gle A B) (k : Gle B C) : Gle A C := ⟨fun i b x => k.phi i b (h.phi i b x), fun i b x => k.rp i b (h.rp i b x), fun i r x => (k.fam i r (h.rp i r x)).trans (h.fam i r x), fun l r x => k.fz l r (h.fz l r x), k.z.trans h.z⟩
theorem Hd.mono {G G' : Gh} (g : Gle G G') {s : Src} {r : RP} {p : Nat} (h : Hd G s r p) : Hd G' s r p := by
  rcases h with ⟨h1, h2⟩ | ⟨h1, h2, h3, h4⟩
  · exact Or.inl ⟨h1, g.fz _ r h2⟩
  · exact Or.inr ⟨h1, h2.trans (g.fam _ _ h3).symm, g.rp _ _ h3, h4⟩
mutual
theorem VR_mono {G G' : Gh} (g : Gle G G') : ∀ (a : AV) (v : Value), VR G a v → VR G' a v
  | .bool b, v, h => by simpa only [VR] using h
  | .int k n, v, h => by simpa only [VR] using h
  | .str s, v, h => by simpa only [VR] using h
  | .nilptr, v, h => by simpa only [VR] using h
  | .ptr i o, v, h => by simp only [VR] at h ⊢; obtain ⟨b, h1, h2⟩ := h; exact ⟨b, g.phi i b h1, h2⟩
  | .eptr cs o s, v, h => by
    simp only [VR] at h ⊢
    obtain ⟨r, p, h1, h3, h4, h5, h6, h7⟩ := h
    exact ⟨r, p, h1.mono g, h3, h4, h5, VRs_mono g cs _ h6, h7⟩
  | .nilrow, v, h => by simpa only [VR] using h
  | .row cs len s, v, h => by
    simp only [VR] at h ⊢
    obtain ⟨h2, h3, h⟩ := h
    refine ⟨h2, h3, ?_⟩
    rcases h with h | ⟨r, p, a, cap, h4, h5, h6, h7, h8, h9, h10, h11⟩
    · exact Or.inl h
    · exact Or.inr ⟨r, p, a, cap, h4.mono g, h5, h6, h7, h8, h9, VRs_mono g cs _ h10, h11⟩
  | .nilmap, v, h => by simpa only [VR] using h
  | .map i, v, h => by simp only [VR] at h ⊢; obtain ⟨b, h1, h2⟩ := h; exact ⟨b, g.phi i b h1, h2⟩
  | .nilfn, v, h => by simpa only [VR] using h
  | .fn f cs, v, h => by simp only [VR] at h ⊢; obtain ⟨l, h1, h2⟩ := h; exact ⟨l, h1, VRs_mono g cs _ h2⟩
  | .niliface, v, h => by simpa only [VR] using h
  | .iface t x, v, h => by simp only [VR] at h ⊢; obtain ⟨u, h1, h2⟩ := h; exact ⟨u, h1, VR_mono g x _ h2⟩
  | .agg cs, v, h => by simp only [VR] at h ⊢; obtain ⟨l, h1, h2⟩ := h; exact ⟨l, h1, VRs_mono g cs _ h2⟩
  | .tup cs, v, h => by simp only [VR] at h ⊢; obtain ⟨l, h1, h2⟩ := h; exact ⟨l, h1, VRs_mono g cs _ h2⟩
  | .mfn f cs, v, h => by simp only [VR] at h ⊢; obtain ⟨l, h1, h2⟩ := h; exact ⟨l, h1, VRs_mono g cs _ h2⟩
theorem VRs_mono {G G' : Gh} (g : Gle G G') : ∀ (a : List AV) (l : List Value), VRs G a l → VRs G' a l
  | [], l, h => by simpa only [VRs] using h
  | a :: r, l, h => by simp only [VRs] at h ⊢; obtain ⟨v, m, h1, h2, h3⟩ := h; exact ⟨v, m, h1, VR_mono g a v h2, VRs_mono g r m h3⟩
end
theorem VRs_length {G : Gh} : ∀ {a : List AV} {l : List Value}, VRs G a l → l.length = a.length
  | [], l, h => by simp only [VRs] at h; rw [h]; rfl
  | a :: r, l, h => by simp only [VRs] at h; obtain ⟨v, m, rfl, h2, h3⟩ := h; simp only [List.length_cons, VRs_length h3]
theorem VRs_get {G : Gh} : ∀ {a : List AV} {l : List Value} {i : Nat} {x : AV}, VRs G a l → a[i]? = some x → ∃ v, l[i]? = some v ∧ VR G x v
  | [], l, i, x, h, hx => by simp at hx
  | a :: r, l, 0, x, h, hx => by simp only [VRs] at h; obtain ⟨v, m, rfl, h2, h3⟩ := h; simp at hx; subst hx; exact ⟨v, rfl, h2⟩
  | a :: r, l, i + 1, x, h, hx => by simp only [VRs] at h; obtain ⟨v, m, rfl, h2, h3⟩ := h; simp at hx; obtain ⟨u, hu, hv⟩ := VRs_get h3 hx; exact ⟨u, by simpa using hu, hv⟩
theorem VRs_app {G : Gh} : ∀ {a b : List AV} {l m : List Value}, VRs G a l → VRs G b m → VRs G (a ++ b) (l ++ m)
  | [], b, l, m, h, k => by simp only [VRs] at h; rw [h]; exact k
  | a :: r, b, l, m, h, k => by simp only [VRs] at h; obtain ⟨v, n, rfl, h2, h3⟩ := h; simp only [List.cons_append, VRs]; exact ⟨v, n ++ m, rfl, h2, VRs_app h3 k⟩
theorem VRs_take {G : Gh} : ∀ {a : List AV} {l : List Value} (n : Nat), VRs G a l → VRs G (a.take n) (l.take n)
  | [], l, n, h => by simp only [VRs] at h; subst h; simp [VRs]
  | a :: r, l, 0, h => by simp [VRs]
  | a :: r, l, n + 1, h => by simp only [VRs] at h; obtain ⟨v, m, rfl, h2, h3⟩ := h; simp only [List.take_succ_cons, VRs]; exact ⟨v, m.take n, rfl, h2, VRs_take n h3⟩
theorem VRs_drop {G : Gh} : ∀ {a : List AV} {l : List Value} (n : Nat), VRs G a l → VRs G (a.drop n) (l.drop n)
  | [], l, n, h => by simp only [VRs] at h; subst h; simp [VRs]
  | a :: r, l, 0, h => by simpa using h
  | a :: r, l, n + 1, h => by simp only [VRs] at h; obtain ⟨v, m, rfl, h2, h3⟩ := h; simpa using VRs_drop n h3
theorem VRs_set {G : Gh} : ∀ {a : List AV} {l : List Value} (n : Nat) {x : AV} {v : Value}, VRs G a l → VR G x v → VRs G (a.set n x) (l.set n v)
  | [], l, n, x, v, h, hx => by simp only [VRs] at h; subst h; simp [VRs]
  | a :: r, l, 0, x, v, h, hx => by simp only [VRs] at h; obtain ⟨u, m, rfl, h2, h3⟩ := h; simp only [List.set_cons_zero, VRs]; exact ⟨v, m, rfl, hx, h3⟩
  | a :: r, l, n + 1, x, v, h, hx => by simp only [VRs] at h; obtain ⟨u, m, rfl, h2, h3⟩ := h; simp only [List.set_cons_succ, VRs]; exact ⟨u, m.set n v, rfl, h2, VRs_set n h3 hx⟩

theorem VR_row_len {G : Gh} {cs : List AV} {len : Nat} {s : Src} {v : Value} (h : VR G (.row cs len s) v) : ∃ a cap, v = .slice a len cap := by
  simp only [VR] at h
  obtain ⟨_, _, ⟨_, rfl, a, cap, h, _⟩ | ⟨r, p, a, cap, _, h, _⟩⟩ := h
  · exact ⟨a, cap, h⟩
  · exact ⟨some a, cap, h⟩
theorem adv_size (s : Src) (n : Nat) : (s.adv n).size = s.size := by
  unfold Src.adv; split <;> rfl
theorem adv_fam (s : Src) (n : Nat) : (s.adv n).fam = s.fam := by
  unfold Src.adv; split
  · rfl
  · rename_i h; exact h.symm
theorem adv_id {s : Src} (h : s.fam = 0) (n : Nat) : s.adv n = s := by
  obtain ⟨f, i, p, z⟩ := s
  simp only at h; subst h; rfl
theorem Hd.adv {G : Gh} {s : Src} {r : RP} {p : Nat} (h : Hd G s r p) (n : Nat) : Hd G (s.adv n) r (p + n) := by
  rcases h with ⟨h1, h2⟩ | ⟨h1, h2, h3, h4⟩
  · exact Or.inl ⟨by rw [adv_fam]; exact h1, by rw [adv_id h1]; exact h2⟩
  · have e : s.adv n = ⟨s.fam, s.id, s.pos + n, s.size⟩ := by
      obtain ⟨f, i, p, z⟩ := s
      cases f with
      | zero => exact absurd rfl h1
      | succ f => rfl
    rw [e]
    exact Or.inr ⟨h1, h2, h3, by rw [h4]⟩
/-- An abstract block stands for an object. -/
def BR (G : Gh) (w : World) (b : Nat) : ABlk → Prop
  | .cells cs => ∃ l e, w.heap[b]? = some (.cells ⟨l⟩ e (0, 0)) ∧ VRs G cs l
  | .map es clock => ∃ l : List MapEntry, w.heap[b]? = some (.map ⟨l⟩ clock) ∧ VRs G (es.map (·.1)) (l.map (·.key)) ∧ VRs G (es.map (·.2.1)) (l.map (·.val)) ∧ es.map (·.2.2) = l.map (·.born)
/-- Some blocks are not touched. -/
structure Bel (B : Nat → Prop) (w w' : World) : Prop where
  os : w'.os = w.os
  tape : w'.tape = w.tape
  output : w'.output = w.output
  size : w.heap.size ≤ w'.heap.size
  block : ∀ k, B k → w'.heap[k]? = w.heap[k]?
theorem Bel.refl (B : Nat → Prop) (w : World) : Bel B w w := ⟨rfl, rfl, rfl, Nat.le_refl _, fun _ _ => rfl⟩
theorem Bel.trans {B : Nat → Prop} {a b c : World} (h : Bel B a b) (k : Bel B b c) : Bel B a c :=
  ⟨k.os.trans h.os, k.tape.trans h.tape, k.output.trans h.output, Nat.le_trans h.size k.size, fun i hi => (k.block i hi).trans (h.block i hi)⟩
theorem Bel.mono {B C : Nat → Prop} {w w' : World} (h : Bel B w w') (hB : ∀ k, C k → B k) : Bel C w w' := ⟨h.os, h.tape, h.output, h.size, fun k hk => h.block k (hB k hk)⟩
theorem Bel.drew {B : Nat → Prop} {a w : World} (h : Bel B a w) : Bel B a w.drew := ⟨h.os, h.tape, h.output, h.size, h.block⟩
theorem Bel.alloc {B : Nat → Prop} {a w : World} (h : Bel B a w) (hB : ∀ k, B k → k < w.heap.size) (o : Obj) : Bel B a (w.alloc o) :=
  h.trans ⟨rfl, rfl, rfl, by simp, fun k hk => Below.heap_alloc _ _ _ (hB k hk)⟩
theorem Bel.below {n : Nat} {w w' : World} (h : Bel (· < n) w w') : Below n w w' := ⟨h.os, h.tape, h.output, h.size, fun k hk => h.block k hk⟩
/-- An abstract heap stands for a world; w0: the world at the call's beginning; B: the blocks that are not touched. -/
structure WR (B : Nat → Prop) (w0 : World) (G : Gh) (h : AH) (w : World) : Prop where
  below : Bel B w0 w
  base : ∀ k, B k → k < w0.heap.size
  phi : ∀ i b, G.phi i = some b → i < h.next ∧ b < w.heap.size ∧ ¬ B b
  inj : ∀ i j b, G.phi i = some b → G.phi j = some b → i = j
  blk : ∀ i x, h.get i = some x → ∃ b, G.phi i = some b ∧ BR G w b x
  rp : ∀ i r, G.rp i = some r → i < h.rnext ∧ r.b < w.heap.size ∧ G.fam i < h.fnext ∧ ∀ j, G.phi j ≠ some r.b
  row : ∀ i r, G.rp i = some r → (G.fam i = 0 ∨ h.live.get i = some true) → ∃ c e f, w.heap[r.b]? = some (.cells c e f) ∧ c.size = r.n ∧ ∀ j v, r.vs[j]? = some v → c[r.org - r.base + j]? = some v
  own : ∀ i r, G.rp i = some r → G.fam i ≠ 0 → ¬ B r.b ∧ ∃ c e, w.heap[r.b]? = some (.cells c e (0, 0)) ∧ c.size = r.n
  chain : ∀ i r, G.rp i = some r → G.fam i ≠ 0 → h.live.get i = some true → (i, r.org + r.vs.length) ∈ (h.chain.get (G.fam i)).getD []
  same : ∀ i j r s, G.rp i = some r → G.rp j = some s → r.b = s.b → G.fam i ≠ 0 → G.fam i = G.fam j ∧ r.base = s.base
  sorted : ∀ f, ((h.chain.get f).getD []).Pairwise fun x y => y.2 ≤ x.2
  org : ∀ i r, G.rp i = some r → r.base ≤ r.org
  nz : ∀ i r, G.rp i = some r → G.fam i ≠ 0
  fn : h.fnext ≠ 0
  fz : ∀ l r, G.fz l r → r.b < w.heap.size ∧ (∀ j, G.phi j ≠ some r.b) ∧ (∀ i q, G.rp i = some q → q.b ≠ r.b) ∧ r.base ≤ r.org ∧ ∃ c e f, w.heap[r.b]? = some (.cells c e f) ∧ c.size = r.n ∧ ∀ j v, r.vs[j]? = some v → c[r.org - r.base + j]? = some v
  fo : ∀ l r, G.fz l r → G.z l r ∨ w0.heap.size ≤ r.b
theorem WR.defs {B : Nat → Prop} {w0 w : World} {G : Gh} {h : AH} (hW : WR B w0 G h w) (x : List (FuncId × List AV)) : WR B w0 G { h with defs := x } w :=
  ⟨hW.below, hW.base, hW.phi, hW.inj, hW.blk, hW.rp, hW.row, hW.own, hW.chain, hW.same, hW.sorted, hW.org, hW.nz, hW.fn, hW.fz, hW.fo⟩
/-- Deferred calls stand for deferred calls. -/
def DR (G : Gh) : List (FuncId × List AV) → List Deferred → Prop
  | [], l => l = []
  | (f, as) :: r, l => ∃ cap dargs m, l = { target := .fn (.func f) cap, args := dargs } :: m ∧ VRs G as (dargs.toList ++ cap.toList) ∧ DR G r m
theorem DR.mono {G G' : Gh} (g : Gle G G') : ∀ {x : List (FuncId × List AV)} {l : List Deferred}, DR G x l → DR G' x l
  | [], l, h => h
  | (f, as) :: r, l, h => by
    obtain ⟨cap, dargs, m, h1, h2, h3⟩ := h
    exact ⟨cap, dargs, m, h1, VRs_mono g _ _ h2, DR.mono g h3⟩
/-- The cells of a row that may be read. -/
theorem WR.cells {B : Nat → Prop} {w0 w : World} {G : Gh} {h : AH} (hW : WR B w0 G h w) {s : Src} {r : RP} {p : Nat} (hd : Hd G s r p) (hok : h.ok s = true) : r.b < w.heap.size ∧ (∀ j, G.phi j ≠ some r.b) ∧ ∃ c e f, w.heap[r.b]? = some (.cells c e f) ∧ c.size = r.n ∧ ∀ j v, r.vs[j]? = some v → c[r.org - r.base + j]? = some v := by
  rcases hd with ⟨h1, h2⟩ | ⟨h1, h2, h3, h4⟩
  · obtain ⟨q1, q2, q3, q4, q5⟩ := hW.fz _ r h2
    exact ⟨q1, q2, q5⟩
  · obtain ⟨q1, q2, q3, q4⟩ := hW.rp _ _ h3
    refine ⟨q2, q4, hW.row _ _ h3 (Or.inr ?_)⟩
    simp only [AH.ok, Bool.or_eq_true, beq_iff_eq] at hok
    rcases hok with h0 | h0
    · exact absurd h0 h1
    · cases hh : h.live.get s.id with
      | none => rw [hh] at h0; simp at h0
      | some y => rw [hh] at h0; simp at h0; rw [h0]
theorem WR.lt {B : Nat → Prop} {w0 w : World} {G : Gh} {h : AH} (hW : WR B w0 G h w) : ∀ k, B k → k < w.heap.size := fun k hk => Nat.lt_of_lt_of_le (hW.base k hk) hW.below.size
theorem WR.fresh {B : Nat → Prop} {w0 w : World} {G : Gh} {h : AH} (hW : WR B w0 G h w) : ¬ B w.heap.size := fun hk => Nat.lt_irrefl _ (hW.lt _ hk)
end Go.Proofs.Ytadohhhjpbhhoaa.EvA
