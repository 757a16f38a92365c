/- A map's keys, sorted: a row of one's own; reckoned. -/
import Derived.Test.YthlmjpfklbocjaaEvSo
import Derived.Test.YthlmjpfklbocjaaEvLd
namespace Go.Proofs.Ythlmjpfklbocjaa.EvA
open Go.RowKit Go.Sort
set_option linter.unusedVariables false
set_option linter.unusedSimpArgs false
def insS (x : List UInt8) : List (List UInt8) → List (List UInt8)
  | [] => [x]
  | y :: r => if x ≤ y then x :: y :: r else y :: insS x r
def sortI : List (List UInt8) → List (List UInt8)
  | [] => []
  | x :: r => insS x (sortI r)
theorem insS_perm (x : List UInt8) : ∀ l, (insS x l).Perm (x :: l)
  | [] => .refl _
  | y :: r => by
    unfold insS
    split
    · exact .refl _
    · exact ((insS_perm x r).cons y).trans (.swap x y r)
theorem sortI_perm : ∀ l, (sortI l).Perm l
  | [] => .refl _
  | x :: r => (insS_perm x _).trans ((sortI_perm r).cons x)
theorem insS_le (x : List UInt8) : ∀ l : List (List UInt8), l.Pairwise (· ≤ ·) → (insS x l).Pairwise (· ≤ ·)
  | [], h => List.pairwise_singleton ..
  | y :: r, h => by
    obtain ⟨h1, h2⟩ := List.pairwise_cons.1 h
    unfold insS
    split
    · rename_i hle
      refine List.pairwise_cons.2 ⟨fun z hz => ?_, h⟩
      rcases List.mem_cons.1 hz with rfl | hz
      · exact hle
      · exact List.le_trans hle (h1 z hz)
    · rename_i hle
      refine List.pairwise_cons.2 ⟨fun z hz => ?_, insS_le x r h2⟩
      rcases List.mem_cons.1 ((insS_perm x r).mem_iff.1 hz) with rfl | hz
      · exact (List.le_total y z).resolve_right hle
      · exact h1 z hz
theorem sortI_le : ∀ l, (sortI l).Pairwise (· ≤ ·)
  | [] => List.Pairwise.nil
  | x :: r => insS_le x _ (sortI_le r)
theorem sortI_eq (ks : List ByteArray) : sortI (ks.map fun s => s.data.toList) = sortK ks := by
  have h1 : (sortI (ks.map fun s => s.data.toList)).mergeSort (fun x y => decide (x ≤ y)) = sortK ks := mergeSort_of_perm (sortI_perm _)
  rw [← h1]
  exact (List.mergeSort_of_pairwise ((sortI_le _).imp fun h => decide_eq_true h)).symm
def mapOkB (es : List (AV × AV × Nat)) (c : Nat) (ks : List ByteArray) : Bool := decide (ks.length ≤ 1000000) && ks.all (fun s => decide (s.size ≤ 1000000000)) && es.all (fun x => decide (x.2.2 < c)) && decide (es.map (·.2.2)).Nodup && decide (ks.map fun s => s.data.toList).Nodup
theorem mapOkB_ok {es : List (AV × AV × Nat)} {c : Nat} {ks : List ByteArray} (hk : keysOf es = some ks) (h : mapOkB es c ks = true) : MapOk es c ks := by
  simp only [mapOkB, Bool.and_eq_true, decide_eq_true_eq, List.all_eq_true] at h
  obtain ⟨⟨⟨⟨h1, h2⟩, h3⟩, h4⟩, h5⟩ := h
  exact ⟨hk, h1, fun s hs => h2 s hs, fun x hx => h3 x hx, h4, h5⟩
def rowO (ks : List ByteArray) (h : AH) : AV × AH := match ks with
  | [] => (.nilrow, h)
  | _ => (.row ((sortI (ks.map fun s => s.data.toList)).map fun l => .str ⟨l.toArray⟩) ks.length ⟨h.fnext, h.rnext, 0, 1⟩, (h.newRow (ks.length * 1) 1).2)
def sortO (K1 : FuncId) : List AV → AH → Option (AV × AH) := fun args h => match args with
  | [.fn k [.ptr i 0]] => if k = K1 then (match h.get i with
    | some (.cells [.map j]) => match h.get j with
      | some (.map es c) => match keysOf es with
        | some ks => if mapOkB es c ks = true then some (rowO ks h) else none
        | none => none
      | _ => none
    | _ => none) else none
  | _ => none
/-- A row that lies there is one's own now. -/
theorem WR_ownRow {B : Nat → Prop} {w0 w : World} {G : Gh} {h : AH} (hW : WR B w0 G h w) {vs : List Value} {c : Array Value} {e : TypeId} {b n size : Nat} (hb : w.heap[b]? = some (.cells c e (0, 0))) (f1 : ∀ j, G.phi j ≠ some b) (f2 : ∀ i q, G.rp i = some q → q.b ≠ b) (f3 : ∀ l r, G.fz l r → b ≠ r.b) (f4 : ¬ B b) (f5 : w0.heap.size ≤ b) (hvs : ∀ (j : Nat) v, vs[j]? = some v → c[j]? = some v) (hlen : vs.length = n) :
    WR B w0 (G.bindRow h.rnext h.fnext ⟨b, 0, 0, vs, c.size⟩) (h.newRow n size).2 w := by
  have g := bindRow_le (f := h.fnext) (r := ⟨b, 0, 0, vs, c.size⟩) (rp_fresh hW)
  have hbl : b < w.heap.size := (Array.getElem?_eq_some_iff.1 hb).1
  refine ⟨hW.below, hW.base, ?_, hW.inj, ?_, ?_, ?_, ?_, ?_, ?_, ?_, ?_, ?_, Nat.succ_ne_zero _, bindRow_fz hW (Nat.le_refl _) (fun l r hr e => f3 l r hr e) (fun k hk _ => rfl), hW.fo⟩
  · exact hW.phi
  · intro i x hx
    obtain ⟨b, hb, hr⟩ := hW.blk i x hx
    exact ⟨b, hb, BR_mono g rfl hr⟩
  · intro i r hr
    rcases rp_bind hr with ⟨rfl, rfl⟩ | ⟨hne, hr⟩
    · exact ⟨Nat.lt_succ_self _, hbl, by rw [fam_new]; exact Nat.lt_succ_self _, fun j hj => f1 j hj⟩
    · obtain ⟨h1, h2, h3, h4⟩ := hW.rp i r hr
      exact ⟨by show i < h.rnext + 1; omega, h2, by rw [fam_same hne]; show G.fam i < h.fnext + 1; omega, h4⟩
  · intro i r hr hl
    rcases rp_bind hr with ⟨rfl, rfl⟩ | ⟨hne, hr⟩
    · exact ⟨c, e, (0, 0), hb, rfl, fun j v hv => by simpa using hvs j v hv⟩
    · have hl' : G.fam i = 0 ∨ h.live.get i = some true := by
        rcases hl with h0 | h0
        · exact Or.inl (by rw [fam_same hne] at h0; exact h0)
        · refine Or.inr ?_
          have h0' : (h.live.set (h.rnext + 1) h.rnext true).get i = some true := h0
          rwa [Tr.get_set_ne _ _ _ _ _ hne] at h0'
      obtain ⟨c', e', f', h1, h2, h3⟩ := hW.row i r hr hl'
      exact ⟨c', e', f', h1, h2, h3⟩
  · intro i r hr hf
    rcases rp_bind hr with ⟨rfl, rfl⟩ | ⟨hne, hr⟩
    · exact ⟨f4, c, e, hb, rfl⟩
    · rw [fam_same hne] at hf
      obtain ⟨h1, c', e', h2, h3⟩ := hW.own i r hr hf
      exact ⟨h1, c', e', h2, h3⟩
  · intro i r hr hf hl
    rcases rp_bind hr with ⟨rfl, rfl⟩ | ⟨hne, hr⟩
    · rw [fam_new]
      show (h.rnext, 0 + vs.length) ∈ ((h.chain.set (h.fnext + 1) h.fnext [(h.rnext, n)]).get h.fnext).getD []
      rw [Tr.get_set_same _ _ _ _ (by omega), hlen]; simp
    · rw [fam_same hne] at hf ⊢
      have hl' : h.live.get i = some true := by
        have h0' : (h.live.set (h.rnext + 1) h.rnext true).get i = some true := hl
        rwa [Tr.get_set_ne _ _ _ _ _ hne] at h0'
      have h1 := hW.chain i r hr hf hl'
      have h2 := (hW.rp i r hr).2.2.1
      show _ ∈ ((h.chain.set (h.fnext + 1) h.fnext [(h.rnext, n)]).get (G.fam i)).getD []
      rw [Tr.get_set_ne _ _ _ _ _ (by omega)]; exact h1
  · intro i j r s hr hs hb' hf
    rcases rp_bind hr with ⟨rfl, rfl⟩ | ⟨hne, hr⟩ <;> rcases rp_bind hs with ⟨rfl, rfl⟩ | ⟨hne', hs⟩
    · exact ⟨rfl, rfl⟩
    · exact absurd hb'.symm (f2 j s hs)
    · exact absurd hb' (f2 i r hr)
    · rw [fam_same hne] at hf
      rw [fam_same hne, fam_same hne']
      exact hW.same i j r s hr hs hb' hf
  · intro f
    show List.Pairwise _ (((h.chain.set (h.fnext + 1) h.fnext [(h.rnext, n)]).get f).getD [])
    by_cases hf : f = h.fnext
    · subst hf; rw [Tr.get_set_same _ _ _ _ (by omega)]; simp
    · rw [Tr.get_set_ne _ _ _ _ _ hf]; exact hW.sorted f
  · intro i r hr
    rcases rp_bind hr with ⟨rfl, rfl⟩ | ⟨hne, hr⟩
    · exact Nat.le_refl _
    · exact hW.org i r hr
  · intro i r hr
    rcases rp_bind hr with ⟨rfl, rfl⟩ | ⟨hne, hr⟩
    · rw [fam_new]; exact hW.fn
    · rw [fam_same hne]; exact hW.nz i r hr
theorem sortO_ok {P : Program} {f K1 : FuncId} {kt : TypeId} (hk : P.underlying kt = some .string) (hC : SortsKeys P f K1 kt) (he : ∀ vals w, (callFunc f vals).run P w = .ok (.enter f vals) w) (B : Nat → Prop) (w0 : World) : SumOk P B w0 (sumAt f (sortO K1)) := by
  intro g s hs args h v h' hv G w vals h1 h2
  unfold sumAt at hs
  split at hs
  case h_2 => cases hs
  rename_i hgf
  have hgf : g = f := Nat.eq_of_beq_eq_true hgf
  subst hgf
  simp only [Option.some.injEq] at hs; subst hs
  unfold sortO at hv
  split at hv
  case h_2 => cases hv
  rename_i k i
  split at hv
  case isFalse => cases hv
  rename_i hkk
  subst hkk
  split at hv
  case h_2 => cases hv
  rename_i j hi
  split at hv
  case h_2 => cases hv
  rename_i es c hj
  split at hv
  case h_2 => cases hv
  rename_i ks hks
  split at hv
  case isFalse => cases hv
  rename_i hokB
  have hok := mapOkB_ok hks hokB
  simp only [Option.some.injEq] at hv
  simp only [VRs, VR] at h1
  obtain ⟨_, _, rfl, ⟨lv, rfl, _, _, rfl, ⟨b, hb, rfl⟩, rfl⟩, rfl⟩ := h1
  obtain ⟨b', hb', hB1⟩ := h2.blk i _ hi
  obtain rfl : b = b' := Option.some.inj (hb.symm.trans hb')
  obtain ⟨l1, e1, hw1, hl1⟩ := hB1
  simp only [VRs, VR] at hl1
  obtain ⟨_, _, rfl, ⟨bj, hbj, rfl⟩, rfl⟩ := hl1
  obtain ⟨bj', hbj', hB2⟩ := h2.blk j _ hj
  obtain rfl : bj = bj' := Option.some.inj (hbj.symm.trans hbj')
  obtain ⟨l, hw2, hkeys, _, hborn⟩ := hB2
  have hlk := keys_vals hks hkeys
  have hlen : l.length = ks.length := by have := congrArg List.length hlk; simpa using this
  have hkey : ∀ x ∈ l, ∃ s ∈ ks, x.key = .string s := fun x hx => by
    have : x.key ∈ l.map (·.key) := List.mem_map.2 ⟨x, hx, rfl⟩
    rw [hlk] at this
    obtain ⟨s, hs, e⟩ := List.mem_map.1 this
    exact ⟨s, hs, e.symm⟩
  have hown : w.ownsMap P kt noR bj l.length (.map ((l.map (WideElems.rg P kt noR)).foldr DataW.insert [])) := by
    refine ⟨⟨l⟩, c, hw2, ⟨?_, ⟨?_, ?_, ?_⟩, ?_⟩, Nat.le_refl _, rfl⟩
    · show l.length ≤ maxLen
      have := hok.few; unfold maxLen; omega
    · intro x hx
      have : x.born ∈ es.map (·.2.2) := by rw [hborn]; exact List.mem_map.2 ⟨x, hx, rfl⟩
      obtain ⟨y, hy, e⟩ := List.mem_map.1 this
      rw [← e]; exact hok.born y hy
    · show (l.map (·.born)).Nodup
      rw [← hborn]; exact hok.once
    · show (l.map (·.key)).Nodup
      rw [hlk]
      have h3 := hok.apart
      rw [List.nodup_iff_pairwise_ne, List.pairwise_map] at h3 ⊢
      exact h3.imp fun hab e => hab (by injection e with e; rw [e])
    · intro x hx
      obtain ⟨s, hs, e⟩ := hkey x hx
      exact ⟨_, rg_key hk e (hok.short s hs)⟩
  have hrg : (l.map (WideElems.rg P kt noR)).map (fun p => strOf p.1) = ks.map fun s => s.data.toList := by
    rw [List.map_map]
    have : ∀ (l : List MapEntry) (ks : List ByteArray), l.map (·.key) = ks.map .string → (∀ s ∈ ks, s.size ≤ 1000000000) → l.map ((fun p => strOf p.1) ∘ WideElems.rg P kt noR) = ks.map fun s => s.data.toList := by
      intro l
      induction l with
      | nil =>
        intro ks h _
        cases ks with
        | nil => rfl
        | cons a r => simp at h
      | cons x l ih =>
        intro ks h hs
        cases ks with
        | nil => simp at h
        | cons s ks =>
          simp only [List.map_cons, List.cons.injEq] at h ⊢
          refine ⟨?_, ih ks h.2 fun y hy => hs y (List.mem_cons_of_mem _ hy)⟩
          show strOf (WideElems.rg P kt noR x).1 = _
          unfold WideElems.rg
          rw [rg_key hk h.1 (hs s (List.mem_cons_self ..))]
          rfl
    exact this l ks hlk hok.short
  have hperm : (strKeys (.map ((l.map (WideElems.rg P kt noR)).foldr DataW.insert []) : DataW Unit)).Perm (ks.map fun s => s.data.toList) := by
    show (((l.map (WideElems.rg P kt noR)).foldr DataW.insert []).map fun p => strOf p.1).Perm _
    rw [← hrg]
    exact (fold_perm _).map _
  have hsize : Maps.size (.map ((l.map (WideElems.rg P kt noR)).foldr DataW.insert []) : DataW Unit) = ks.length := by
    show ((l.map (WideElems.rg P kt noR)).foldr DataW.insert []).length = _
    rw [(fold_perm _).length_eq, List.length_map, hlen]
  have hcell : w.cell? ⟨b, 0, none⟩ = some (.map (some bj)) := by
    simp [World.cell?, hw1]
  have hfew := hok.few
  refine Or.inr ⟨he _ _, (hC b bj l.length _ w (h2.phi i b hb).2.1 hcell hown (by rw [hsize]; unfold maxLen; omega) (by rw [hsize]; omega)).mono ?_⟩
  rintro _ w' ⟨u, ss, rfl, hss, hrow, hnil, hbel⟩
  have hsort : ss.mergeSort (fun x y => decide (x ≤ y)) = sortK ks := mergeSort_of_perm (hss.trans hperm)
  have hssl : ss.length = ks.length := by rw [(hss.trans hperm).length_eq, List.length_map]
  have hbl : Bel (· < w.heap.size) w w' := ⟨hbel.os, hbel.tape, hbel.output, hbel.size, fun k hk => hbel.block k hk⟩
  have hW' := h2.later hbl
  cases ks with
  | nil =>
    have : ss = [] := List.eq_nil_of_length_eq_zero hssl
    simp only [rowO, Prod.mk.injEq] at hv
    obtain ⟨rfl, rfl⟩ := hv
    exact ⟨G, Gle.refl G, by simp only [VR]; exact hnil.2 this, hW'⟩
  | cons s0 ks =>
    have hne : ss ≠ [] := fun e => by rw [e] at hssl; simp at hssl
    have hv0 : u ≠ .slice none 0 0 := fun e => hne (hnil.1 e)
    obtain ⟨hl1, hrow | ⟨g2, cap, cur, rfl, hg1, hg2, hn1, hn2, hn3, hn4⟩⟩ := hrow
    · exact absurd hrow.1 hv0
    rw [hsort] at hn4
    rw [Nat.mul_one] at hn4
    have hsl : (sortK (s0 :: ks)).length = (s0 :: ks).length := by unfold sortK; rw [List.length_mergeSort, List.length_map]
    have hcur : ∀ (q : Nat) (u : Value), ((sortK (s0 :: ks)).map encStr)[q]? = some u → cur[q]? = some u := by
      intro q u hu
      rw [← hn4, List.getElem?_take] at hu
      split at hu
      · simpa using hu
      · cases hu
    have hbase := h2.below.size
    simp only [rowO, Prod.mk.injEq] at hv
    obtain ⟨rfl, rfl⟩ := hv
    rw [sortI_eq]
    have hWn := WR_ownRow (n := (s0 :: ks).length * 1) (size := 1) hW' (vs := (sortK (s0 :: ks)).map encStr) (b := g2) (c := cur) (e := kt) hg2 (fun q hq => by have := (h2.phi q g2 hq).2.1; omega) (fun q x hx hb2 => by have h3 := (h2.rp q x hx).2.1; omega)
      (fun l r hr hb2 => by have h3 := (h2.fz l r hr).1; omega) (fun hB => by have := h2.base g2 hB; omega) (by omega) hcur (by rw [List.length_map, hsl, Nat.mul_one])
    refine ⟨_, bindRow_le (rp_fresh hW'), ?_, hWn⟩
    show VR _ (.row ((sortK (s0 :: ks)).map fun l => AV.str ⟨l.toArray⟩) (s0 :: ks).length ⟨h.fnext, h.rnext, 0, 1⟩) _
    simp only [VR]
    refine ⟨by rw [List.length_map, hsl, Nat.mul_one], by omega, Or.inr ⟨⟨g2, 0, 0, (sortK (s0 :: ks)).map encStr, cur.size⟩, 0, ⟨g2, 0, none⟩, cap, Or.inr ⟨hW'.fn, fam_new.symm, by simp [Gh.bindRow], rfl⟩, by rw [hssl], Nat.le_refl _, Nat.le_refl _, by simp, by rw [← hssl]; exact hn1, ?_, Or.inr ⟨rfl, Or.inr (by show 0 - 0 + cap * 1 ≤ cur.size; omega)⟩⟩⟩
    rw [List.length_map, Nat.sub_self, List.drop_zero, List.take_of_length_le (by rw [List.length_map]; exact Nat.le_refl _)]
    have : ∀ (G : Gh) (l : List (List UInt8)), VRs G (l.map fun l => AV.str ⟨l.toArray⟩) (l.map encStr) := by
      intro G l
      induction l with
      | nil => simp [VRs]
      | cons a l ih => simp only [List.map_cons, VRs, VR]; exact ⟨_, _, rfl, rfl, ih⟩
    exact this _ _
variable {fs : List Fact} {S : Sum} {F : FuncId → Option AF}
/-- The walk rule: sorted keys are a row of one's own. -/
theorem sortedO_ev {f K1 : FuncId} {i j c : Nat} {es : List (AV × AV × Nat)} {ks : List ByteArray} (hS : S f = some (sortO K1)) (hi : Has fs (.blk i (.cells [.map j]))) (hj : Has fs (.blk j (.map es c))) (hk : keysOf es = some ks) (hok : mapOkB es c ks = true) (h0 : ks ≠ []) {K : KK}
    (h : ∀ f id, K (.row ((sortK ks).map fun l => .str ⟨l.toArray⟩) ks.length ⟨f, id, 0, 1⟩) (.row f id (ks.length * 1) :: fs)) : Ev S F f [.fn K1 [.ptr i 0]] fs K :=
  ev_sum hS fun h1 h2 => ⟨_, _, _, h2.newRow (ks.length * 1) 1, h h1.fnext h1.rnext, by
    unfold sortO
    simp only [if_true, h2.get hi, h2.get hj, hk]
    rw [if_pos hok]
    cases ks with
    | nil => exact absurd rfl h0
    | cons s ks => unfold rowO; rw [sortI_eq]⟩
end Go.Proofs.Ythlmjpfklbocjaa.EvA
