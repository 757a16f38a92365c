/- An evaluator of the program's code over abstract values and an abstract heap: rows that grow. -/
import Derived.Test.YtadohhhjpbhhoaaEvO
import Derived.Laws.AppendOwn
namespace Go.Proofs.Ytadohhhjpbhhoaa.EvA
open Go.RowKit
set_option linter.unusedVariables false
set_option linter.unusedSimpArgs false
theorem drop_le {α : Type} {f : α → Nat} {e : Nat} : ∀ {l : List α}, l.Pairwise (fun x y => f y ≤ f x) → ∀ x ∈ l.dropWhile (fun x => decide (e < f x)), f x ≤ e
  | [], _, x, hx => by simp at hx
  | a :: l, h, x, hx => by
    rw [List.dropWhile_cons] at hx
    split at hx
    · exact drop_le (List.pairwise_cons.1 h).2 x hx
    · rename_i ha
      have ha' : f a ≤ e := by simpa using ha
      rcases List.mem_cons.1 hx with rfl | hm
      · exact ha'
      · exact Nat.le_trans ((List.pairwise_cons.1 h).1 x hm) ha'
theorem pair_drop {α : Type} {R : α → α → Prop} {p : α → Bool} {l : List α} (h : l.Pairwise R) : (l.dropWhile p).Pairwise R := h.sublist (List.dropWhile_sublist p)
theorem WR_grow {B : Nat → Prop} {w0 w w' : World} {G : Gh} {h : AH} (hW : WR B w0 G h w) {s : Src} {F e n : Nat} (hs : s.fam = F) (hF : F ≠ 0) (hFl : F < h.fnext) {R : RP} (hbel : Bel B w w')
    {c : Array Value} {el : TypeId} (hc : w'.heap[R.b]? = some (.cells c el (0, 0))) (hn : c.size = R.n) (hvs : ∀ (j : Nat) v, R.vs[j]? = some v → c[R.org - R.base + j]? = some v) (hend : R.org + R.vs.length = e + n)
    (hB : ¬ B R.b) (hphi : ∀ j, G.phi j ≠ some R.b) (hother : ∀ k, k < w.heap.size → k ≠ R.b → w'.heap[k]? = w.heap[k]?) (horg : R.base ≤ R.org) (hRf : ∀ l r, G.fz l r → R.b ≠ r.b)
    (hold : ∀ i r, G.rp i = some r → r.b = R.b → G.fam i = F ∧ r.base = R.base ∧ r.n = R.n ∧ ∃ c0 e0 f0, w.heap[r.b]? = some (.cells c0 e0 f0) ∧ ∀ k, k + r.base < e → c[k]? = c0[k]?) :
    WR B w0 (G.bindRow h.rnext F R) (h.grow s e n).2 w' := by
  have g := bindRow_le (f := F) (r := R) (rp_fresh hW)
  have hRb : R.b < w'.heap.size := (Array.getElem?_eq_some_iff.1 hc).1
  have hlive : ∀ i, i ≠ h.rnext → ((h.grow s e n).2).live.get i = some true → h.live.get i = some true ∧ ∀ x ∈ ((h.chain.get F).getD []).takeWhile (fun x => decide (e < x.2)), x.1 ≠ i := by
    intro i hi hl
    have hl' : ((killAll h.live (((h.chain.get s.fam).getD []).takeWhile fun x => decide (e < x.2))).set (h.rnext + 1) h.rnext true).get i = some true := hl
    rw [Tr.get_set_ne _ _ _ _ _ hi, hs] at hl'
    have hnot : ∀ x ∈ ((h.chain.get F).getD []).takeWhile (fun x => decide (e < x.2)), x.1 ≠ i := by
      intro x hx he
      rw [killAll_mem _ _ ⟨x, hx, he⟩] at hl'
      cases hl'
    rw [killAll_ne _ _ hnot] at hl'
    exact ⟨hl', hnot⟩
  have hch : ∀ f, ((h.grow s e n).2).chain.get f = if f = F then some ((h.rnext, e + n) :: ((h.chain.get F).getD []).dropWhile fun x => decide (e < x.2)) else h.chain.get f := by
    intro f
    show (h.chain.set (s.fam + 1) s.fam ((h.rnext, e + n) :: ((h.chain.get s.fam).getD []).dropWhile fun x => decide (e < x.2))).get f = _
    rw [hs]
    by_cases hf : f = F
    · subst hf; rw [if_pos rfl, Tr.get_set_same _ _ _ _ (by omega)]
    · rw [if_neg hf, Tr.get_set_ne _ _ _ _ _ hf]
  have hkeep : ∀ i r, G.rp i = some r → i ≠ h.rnext → G.fam i = F → ((h.grow s e n).2).live.get i = some true → (i, r.org + r.vs.length) ∈ ((h.chain.get F).getD []).dropWhile fun x => decide (e < x.2) := by
    intro i r hr hi hf hl
    obtain ⟨h1, h2⟩ := hlive i hi hl
    have h3 := hW.chain i r hr (by rw [hf]; exact hF) h1
    rw [hf] at h3
    rw [← List.takeWhile_append_dropWhile (p := fun x : Nat × Nat => decide (e < x.2)) (l := (h.chain.get F).getD [])] at h3
    rcases List.mem_append.1 h3 with h4 | h4
    · exact absurd rfl (h2 _ h4)
    · exact h4
  refine ⟨hW.below.trans hbel, hW.base, ?_, hW.inj, ?_, ?_, ?_, ?_, ?_, ?_, ?_, ?_, ?_, hW.fn, bindRow_fz hW hbel.size hRf hother, hW.fo⟩
  · intro i b hb
    obtain ⟨h1, h2, h3⟩ := hW.phi i b hb
    exact ⟨h1, Nat.lt_of_lt_of_le h2 hbel.size, h3⟩
  · intro i x hx
    obtain ⟨b, hb, hr⟩ := hW.blk i x hx
    exact ⟨b, hb, BR_mono g (hother b (hW.phi i b hb).2.1 (fun e => hphi i (by rw [← e]; exact hb))) hr⟩
  · intro i r hr
    rcases rp_bind hr with ⟨rfl, rfl⟩ | ⟨hne, hr⟩
    · exact ⟨Nat.lt_succ_self _, hRb, by rw [fam_new]; exact hFl, hphi⟩
    · obtain ⟨h1, h2, h3, h4⟩ := hW.rp i r hr
      exact ⟨by show i < h.rnext + 1; omega, Nat.lt_of_lt_of_le h2 hbel.size, by rw [fam_same hne]; exact h3, h4⟩
  · intro i r hr hl
    rcases rp_bind hr with ⟨rfl, rfl⟩ | ⟨hne, hr⟩
    · exact ⟨c, el, (0, 0), hc, hn, hvs⟩
    · have hl' : G.fam i = 0 ∨ h.live.get i = some true := by
        rcases hl with h0 | h0
        · exact Or.inl (by rw [fam_same hne] at h0; exact h0)
        · exact Or.inr (hlive i hne h0).1
      obtain ⟨c', e', f', h1, h2, h3⟩ := hW.row i r hr hl'
      by_cases hb : r.b = R.b
      · obtain ⟨k1, k2, k3, c0, e0, f0, k4, k5⟩ := hold i r hr hb
        rw [h1] at k4
        simp only [Option.some.injEq, Obj.cells.injEq] at k4
        obtain ⟨rfl, rfl, rfl⟩ := k4
        have hl2 : ((h.grow s e n).2).live.get i = some true := by
          rcases hl with h0 | h0
          · rw [fam_same hne] at h0; omega
          · exact h0
        have hle : r.org + r.vs.length ≤ e := drop_le (f := fun x : Nat × Nat => x.2) (hW.sorted F) _ (hkeep i r hr hne k1 hl2)
        refine ⟨c, el, (0, 0), by rw [hb]; exact hc, by rw [hn, k3], fun j v hv => ?_⟩
        have hj : j < r.vs.length := (List.getElem?_eq_some_iff.1 hv).1
        have ho := hW.org i r hr
        rw [k5 _ (by omega)]
        exact h3 j v hv
      · exact ⟨c', e', f', (hother _ (hW.rp i r hr).2.1 hb).trans h1, h2, h3⟩
  · intro i r hr hf
    rcases rp_bind hr with ⟨rfl, rfl⟩ | ⟨hne, hr⟩
    · exact ⟨hB, c, el, hc, hn⟩
    · rw [fam_same hne] at hf
      obtain ⟨h1, c', e', h2, h3⟩ := hW.own i r hr hf
      by_cases hb : r.b = R.b
      · obtain ⟨k1, k2, k3, _⟩ := hold i r hr hb
        exact ⟨h1, c, el, by rw [hb]; exact hc, by rw [hn, k3]⟩
      · exact ⟨h1, c', e', (hother _ (hW.rp i r hr).2.1 hb).trans h2, h3⟩
  · intro i r hr hf hl
    rw [hch]
    rcases rp_bind hr with ⟨rfl, rfl⟩ | ⟨hne, hr⟩
    · rw [fam_new, if_pos rfl, hend]; simp
    · rw [fam_same hne] at hf ⊢
      by_cases hfF : G.fam i = F
      · rw [if_pos hfF]
        exact List.mem_cons_of_mem _ (hkeep i r hr hne hfF hl)
      · rw [if_neg hfF]
        exact hW.chain i r hr hf (hlive i hne hl).1
  · intro i j r q hr hq hb hf
    rcases rp_bind hr with ⟨e1, e2⟩ | ⟨hne, hr2⟩ <;> rcases rp_bind hq with ⟨e3, e4⟩ | ⟨hne', hq2⟩
    · subst e1; subst e2; subst e3; subst e4; exact ⟨rfl, rfl⟩
    · subst e1; subst e2
      obtain ⟨k1, k2, _⟩ := hold j q hq2 hb.symm
      rw [fam_new, fam_same hne']
      exact ⟨k1.symm, k2.symm⟩
    · subst e3; subst e4
      obtain ⟨k1, k2, _⟩ := hold i r hr2 hb
      rw [fam_new, fam_same hne]
      exact ⟨k1, k2⟩
    · rw [fam_same hne] at hf
      rw [fam_same hne, fam_same hne']
      exact hW.same i j r q hr2 hq2 hb hf
  · intro f
    rw [hch]
    split
    · refine List.pairwise_cons.2 ⟨fun x hx => ?_, pair_drop (hW.sorted F)⟩
      have := drop_le (f := fun x : Nat × Nat => x.2) (hW.sorted F) x hx
      exact Nat.le_trans this (Nat.le_add_right e n)
    · exact hW.sorted f
  · intro i r hr
    rcases rp_bind hr with ⟨rfl, rfl⟩ | ⟨hne, hr⟩
    · exact horg
    · exact hW.org i r hr
  · intro i r hr
    rcases rp_bind hr with ⟨rfl, rfl⟩ | ⟨hne, hr⟩
    · rw [fam_new]; exact hF
    · rw [fam_same hne]; exact hW.nz i r hr
end Go.Proofs.Ytadohhhjpbhhoaa.EvA
