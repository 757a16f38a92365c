/- An evaluator of the program's code over abstract values and an abstract heap: new rows. -/
import Derived.Test.YtadohhhjpbhhoaaEvN
namespace Go.Proofs.Ytadohhhjpbhhoaa.EvA
open Go.RowKit
set_option linter.unusedVariables false
set_option linter.unusedSimpArgs false
/-- A new row in a family of its own, its block's first cells known. -/
def Gh.bindRow (G : Gh) (i f : Nat) (r : RP) : Gh := { G with rp := fun j => if j = i then some r else G.rp j, fam := fun j => if j = i then f else G.fam j }

theorem bindRow_le {G : Gh} {i f : Nat} {r : RP} (hi : G.rp i = none) : Gle G (G.bindRow i f r) :=
  ⟨fun _ _ h => h, fun j s hs => by simp only [Gh.bindRow]; rw [if_neg (by intro e; rw [e, hi] at hs; cases hs)]; exact hs, fun j s hs => by simp only [Gh.bindRow]; rw [if_neg (by intro e; rw [e, hi] at hs; cases hs)], fun _ _ h => h, rfl⟩
theorem killAll_ne {i : Nat} : ∀ (l : List (Nat × Nat)) (t : Tr Bool), (∀ x ∈ l, x.1 ≠ i) → (killAll t l).get i = t.get i
  | [], t, _ => rfl
  | (j, e) :: l, t, h => by
    simp only [killAll]
    rw [killAll_ne l _ (fun x hx => h x (List.mem_cons_of_mem _ hx)), Tr.get_set_ne _ _ _ _ _ (Ne.symm (h (j, e) (List.mem_cons_self ..)))]
theorem killAll_mem {i : Nat} : ∀ (l : List (Nat × Nat)) (t : Tr Bool), (∃ x ∈ l, x.1 = i) → (killAll t l).get i = some false
  | [], t, h => by obtain ⟨x, hx, _⟩ := h; cases hx
  | (j, e) :: l, t, h => by
    simp only [killAll]
    by_cases hr : ∃ x ∈ l, x.1 = i
    · exact killAll_mem l _ hr
    · have hj : j = i := by
        obtain ⟨x, hx, he⟩ := h
        rcases List.mem_cons.mp hx with rfl | hx
        · exact he
        · exact absurd ⟨x, hx, he⟩ hr
      rw [killAll_ne l _ (fun x hx he => hr ⟨x, hx, he⟩), hj, Tr.get_set_same _ _ _ _ (by omega)]
theorem rp_bind {G : Gh} {i f j : Nat} {r s : RP} (h : (G.bindRow i f r).rp j = some s) : (j = i ∧ s = r) ∨ (j ≠ i ∧ G.rp j = some s) := by
  simp only [Gh.bindRow] at h
  split at h
  · rename_i e; simp only [Option.some.injEq] at h; exact Or.inl ⟨e, h.symm⟩
  · rename_i e; exact Or.inr ⟨e, h⟩
theorem fam_same {G : Gh} {i f j : Nat} {r : RP} (h : j ≠ i) : (G.bindRow i f r).fam j = G.fam j := by simp only [Gh.bindRow]; rw [if_neg h]
theorem fam_new {G : Gh} {i f : Nat} {r : RP} : (G.bindRow i f r).fam i = f := by simp [Gh.bindRow]
theorem rp_fresh {B : Nat → Prop} {w0 w : World} {G : Gh} {h : AH} (hW : WR B w0 G h w) : G.rp h.rnext = none := by
  cases hr : G.rp h.rnext with
  | none => rfl
  | some r => have := (hW.rp _ r hr).1; omega
theorem bindRow_fz {B : Nat → Prop} {w0 w w' : World} {G : Gh} {h : AH} (hW : WR B w0 G h w) {i f : Nat} {R : RP} (hsz : w.heap.size ≤ w'.heap.size) (hR : ∀ l r, G.fz l r → R.b ≠ r.b) (hother : ∀ k, k < w.heap.size → k ≠ R.b → w'.heap[k]? = w.heap[k]?) :
    ∀ l r, (G.bindRow i f R).fz l r → r.b < w'.heap.size ∧ (∀ j, (G.bindRow i f R).phi j ≠ some r.b) ∧ (∀ j q, (G.bindRow i f R).rp j = some q → q.b ≠ r.b) ∧ r.base ≤ r.org ∧ ∃ c e f, w'.heap[r.b]? = some (.cells c e f) ∧ c.size = r.n ∧ ∀ j v, r.vs[j]? = some v → c[r.org - r.base + j]? = some v := by
  intro l r hr
  obtain ⟨f1, f2, f3, f4, c, e, f, f5, f6, f7⟩ := hW.fz l r hr
  refine ⟨by omega, f2, fun j q hq => ?_, f4, c, e, f, (hother _ f1 (fun e => hR l r hr e.symm)).trans f5, f6, f7⟩
  rcases rp_bind hq with ⟨rfl, rfl⟩ | ⟨_, hq⟩
  · exact hR l r hr
  · exact f3 j q hq
theorem WR_newRow {B : Nat → Prop} {w0 w : World} {G : Gh} {h : AH} (hW : WR B w0 G h w) {vs : List Value} {c : Array Value} {e : TypeId} {n size : Nat} (hvs : ∀ (j : Nat) v, vs[j]? = some v → c[j]? = some v) (hlen : vs.length = n) :
    WR B w0 (G.bindRow h.rnext h.fnext ⟨w.heap.size, 0, 0, vs, c.size⟩) (h.newRow n size).2 (w.alloc (.cells c e)) := by
  have g := bindRow_le (f := h.fnext) (r := ⟨w.heap.size, 0, 0, vs, c.size⟩) (rp_fresh hW)
  have hsz : (w.alloc (.cells c e)).heap.size = w.heap.size + 1 := by
    show (w.heap.push _).size = _
    simp
  have hB := hW.fresh
  refine ⟨hW.below.alloc hW.lt _, hW.base, ?_, hW.inj, ?_, ?_, ?_, ?_, ?_, ?_, ?_, ?_, ?_, Nat.succ_ne_zero _, bindRow_fz hW (by omega) (fun l r hr e => by have := (hW.fz l r hr).1; simp only at e; omega) (fun k hk _ => heap_alloc hk), hW.fo⟩
  · intro i b hb
    obtain ⟨h1, h2, h3⟩ := hW.phi i b hb
    exact ⟨h1, by omega, h3⟩
  · intro i x hx
    obtain ⟨b, hb, hr⟩ := hW.blk i x hx
    exact ⟨b, hb, BR_mono g (heap_alloc (hW.phi i b hb).2.1) hr⟩
  · intro i r hr
    rcases rp_bind hr with ⟨rfl, rfl⟩ | ⟨hne, hr⟩
    · refine ⟨Nat.lt_succ_self _, by rw [hsz]; exact Nat.lt_succ_self _, by rw [fam_new]; exact Nat.lt_succ_self _, fun j hj => ?_⟩
      have := (hW.phi j _ hj).2.1
      simp only at this; omega
    · obtain ⟨h1, h2, h3, h4⟩ := hW.rp i r hr
      exact ⟨by show i < h.rnext + 1; omega, by omega, by rw [fam_same hne]; show G.fam i < h.fnext + 1; omega, h4⟩
  · intro i r hr hl
    rcases rp_bind hr with ⟨rfl, rfl⟩ | ⟨hne, hr⟩
    · exact ⟨c, e, (0, 0), heap_new, rfl, fun j v hv => by simpa using hvs j v hv⟩
    · have hl' : G.fam i = 0 ∨ h.live.get i = some true := by
        rcases hl with h0 | h0
        · exact Or.inl (by rw [fam_same hne] at h0; exact h0)
        · refine Or.inr ?_
          have h0' : (h.live.set (h.rnext + 1) h.rnext true).get i = some true := h0
          rwa [Tr.get_set_ne _ _ _ _ _ hne] at h0'
      obtain ⟨c', e', f', h1, h2, h3⟩ := hW.row i r hr hl'
      exact ⟨c', e', f', (heap_alloc (hW.rp i r hr).2.1).trans h1, h2, h3⟩
  · intro i r hr hf
    rcases rp_bind hr with ⟨rfl, rfl⟩ | ⟨hne, hr⟩
    · exact ⟨hB, c, e, heap_new, rfl⟩
    · rw [fam_same hne] at hf
      obtain ⟨h1, c', e', h2, h3⟩ := hW.own i r hr hf
      exact ⟨h1, c', e', (heap_alloc (hW.rp i r hr).2.1).trans h2, h3⟩
  · intro i r hr hf hl
    rcases rp_bind hr with ⟨rfl, rfl⟩ | ⟨hne, hr⟩
    · rw [fam_new]
      show (h.rnext, 0 + vs.length) ∈ ((h.chain.set (h.fnext + 1) h.fnext [(h.rnext, n)]).get h.fnext).getD []
      rw [Tr.get_set_same _ _ _ _ (by omega), hlen]; simp
    · rw [fam_same hne] at hf ⊢
      have hl' : h.live.get i = some true := by
        have h0' : (h.live.set (h.rnext + 1) h.rnext true).get i = some true := hl
        rwa [Tr.get_set_ne _ _ _ _ _ hne] at h0'
      have h1 := hW.chain i r hr hf hl'
      have h2 := (hW.rp i r hr).2.2.1
      show _ ∈ ((h.chain.set (h.fnext + 1) h.fnext [(h.rnext, n)]).get (G.fam i)).getD []
      rw [Tr.get_set_ne _ _ _ _ _ (by omega)]; exact h1
  · intro i j r s hr hs hb hf
    rcases rp_bind hr with ⟨rfl, rfl⟩ | ⟨hne, hr⟩ <;> rcases rp_bind hs with ⟨rfl, rfl⟩ | ⟨hne', hs⟩
    · exact ⟨rfl, rfl⟩
    · have := (hW.rp j s hs).2.1; simp only at hb; omega
    · have := (hW.rp i r hr).2.1; simp only at hb; omega
    · rw [fam_same hne] at hf
      rw [fam_same hne, fam_same hne']
      exact hW.same i j r s hr hs hb hf
  · intro f
    show List.Pairwise _ (((h.chain.set (h.fnext + 1) h.fnext [(h.rnext, n)]).get f).getD [])
    by_cases hf : f = h.fnext
    · subst hf; rw [Tr.get_set_same _ _ _ _ (by omega)]; simp
    · rw [Tr.get_set_ne _ _ _ _ _ hf]; exact hW.sorted f
  · intro i r hr
    rcases rp_bind hr with ⟨rfl, rfl⟩ | ⟨hne, hr⟩
    · exact Nat.le_refl _
    · exact hW.org i r hr
  · intro i r hr
    rcases rp_bind hr with ⟨rfl, rfl⟩ | ⟨hne, hr⟩
    · rw [fam_new]; exact hW.fn
    · rw [fam_same hne]; exact hW.nz i r hr
/-- One row more that nobody writes to any more. -/
def Gh.more (G : Gh) (r : RP) : Gh := { G with fz := fun l q => G.fz l q ∨ (l = 0 ∧ q = r) }
theorem Gle.more (G : Gh) (r : RP) : Gle G (G.more r) := ⟨fun _ _ h => h, fun _ _ h => h, fun _ _ _ => rfl, fun _ _ h => Or.inl h, rfl⟩
theorem WR.more {B : Nat → Prop} {w0 w : World} {G : Gh} {h : AH} (hW : WR B w0 G h w) {r : RP} (h1 : r.b < w.heap.size) (h2 : ∀ j, G.phi j ≠ some r.b) (h3 : ∀ i q, G.rp i = some q → q.b ≠ r.b) (h4 : r.base ≤ r.org) (h5 : ∃ c e f, w.heap[r.b]? = some (.cells c e f) ∧ c.size = r.n ∧ ∀ j v, r.vs[j]? = some v → c[r.org - r.base + j]? = some v) (h6 : w0.heap.size ≤ r.b) : WR B w0 (G.more r) h w := by
  refine ⟨hW.below, hW.base, hW.phi, hW.inj, fun i x hx => ?_, hW.rp, hW.row, hW.own, hW.chain, hW.same, hW.sorted, hW.org, hW.nz, hW.fn, fun l q hq => ?_, fun l q hq => ?_⟩
  · obtain ⟨b, q1, q2⟩ := hW.blk i x hx
    exact ⟨b, q1, BR_mono (Gle.more G r) rfl q2⟩
  · rcases hq with hq | ⟨_, rfl⟩
    · exact hW.fz l q hq
    · exact ⟨h1, h2, h3, h4, h5⟩
  · rcases hq with hq | ⟨_, rfl⟩
    · exact hW.fo l q hq
    · exact Or.inr h6
/-- Later worlds of which nothing that is known is turned. -/
theorem WR.later {B : Nat → Prop} {w0 w w' : World} {G : Gh} {h : AH} (hW : WR B w0 G h w) (hb : Bel (· < w.heap.size) w w') : WR B w0 G h w' := by
  refine ⟨hW.below.trans (hb.mono hW.lt), hW.base, ?_, hW.inj, ?_, ?_, ?_, ?_, hW.chain, hW.same, hW.sorted, hW.org, hW.nz, hW.fn, ?_, hW.fo⟩
  · intro i b h1
    obtain ⟨q1, q2, q3⟩ := hW.phi i b h1
    exact ⟨q1, Nat.lt_of_lt_of_le q2 hb.size, q3⟩
  · intro i x hx
    obtain ⟨b, h1, h2⟩ := hW.blk i x hx
    exact ⟨b, h1, BR_mono (Gle.refl G) (hb.block b (hW.phi i b h1).2.1) h2⟩
  · intro i r hr
    obtain ⟨h1, h2, h3, h4⟩ := hW.rp i r hr
    exact ⟨h1, Nat.lt_of_lt_of_le h2 hb.size, h3, h4⟩
  · intro i r hr hl
    obtain ⟨c, e, f, h1, h2, h3⟩ := hW.row i r hr hl
    exact ⟨c, e, f, (hb.block _ (hW.rp i r hr).2.1).trans h1, h2, h3⟩
  · intro i r hr hf
    obtain ⟨h1, c, e, h2, h3⟩ := hW.own i r hr hf
    exact ⟨h1, c, e, (hb.block _ (hW.rp i r hr).2.1).trans h2, h3⟩
  · intro l r hr
    obtain ⟨f1, f2, f3, f4, c, e, f, f5, f6, f7⟩ := hW.fz l r hr
    exact ⟨Nat.lt_of_lt_of_le f1 hb.size, f2, f3, f4, c, e, f, (hb.block _ f1).trans f5, f6, f7⟩
end Go.Proofs.Ytadohhhjpbhhoaa.EvA
