/- A map's keys, sorted: told at once. -/
import Derived.Test.YthlmjpfklbocjaaEvIx
import Derived.Maps.Own
import Derived.Maps.Views
import Derived.Sort.KeysCollected
import Derived.CallsIn
namespace Go.Proofs.Ythlmjpfklbocjaa.EvA
open Go.RowKit Go.Sort
set_option linter.unusedVariables false
theorem ins_perm {H : Type} (x : Lit × DataW H) : ∀ l : List (Lit × DataW H), (DataW.insert x l).Perm (x :: l)
  | [] => .refl _
  | y :: r => by
    unfold DataW.insert
    split
    · exact .refl _
    · exact ((ins_perm x r).cons y).trans (.swap x y r)
theorem fold_perm {H : Type} : ∀ l : List (Lit × DataW H), (l.foldr DataW.insert []).Perm l
  | [] => .refl _
  | x :: l => (ins_perm x _).trans ((fold_perm l).cons x)
/-- How a map's values read: not at all. -/
def noR : Value → Option (DataW Unit × List MemPlace) := fun _ => some (.nil, [])
/-- What the library's contract says of 'slices.Sorted(maps.Keys(m))'. -/
def SortsKeys (P : Program) (f K1 : FuncId) (kt : TypeId) : Prop := ∀ (Bm b nn : Nat) (D0 : DataW Unit) (W : World), Bm < W.heap.size → W.cell? ⟨Bm, 0, none⟩ = some (.map (some b)) → W.ownsMap P kt noR b nn D0 → Maps.size D0 ≤ maxLen → Maps.size D0 * 16 ≤ 140737488355328 →
  Calls P f #[.func (.func K1) #[] #[.pointer (some ⟨Bm, 0, none⟩)]] W fun e w' => ∃ (v : Value) (ss : List (List UInt8)), e = .returned v ∧ ss.Perm (strKeys D0) ∧ w'.ownsRow W.heap.size kt 1 v ss.length ((ss.mergeSort (fun x y => decide (x ≤ y))).map encStr) ∧ (v = .slice none 0 0 ↔ ss = []) ∧ Below W.heap.size W w'
def keysOf : List (AV × AV × Nat) → Option (List ByteArray)
  | [] => some []
  | (.str s, _, _) :: r => (keysOf r).map (s :: ·)
  | _ :: _ => none
/-- The keys, sorted. -/
def sortK (ks : List ByteArray) : List (List UInt8) := (ks.map fun s => s.data.toList).mergeSort (fun x y => decide (x ≤ y))
def rowK (ks : List ByteArray) : AV := match ks with
  | [] => .nilrow
  | _ => .row ((sortK ks).map fun l => .str ⟨l.toArray⟩) ks.length ⟨0, 0, 0, 1⟩
structure MapOk (es : List (AV × AV × Nat)) (c : Nat) (ks : List ByteArray) : Prop where
  keys : keysOf es = some ks
  few : ks.length ≤ 1000000
  short : ∀ s ∈ ks, s.size ≤ 1000000000
  born : ∀ x ∈ es, x.2.2 < c
  once : (es.map (·.2.2)).Nodup
  apart : (ks.map fun s => s.data.toList).Nodup
open Classical in
noncomputable def sortS (K1 : FuncId) : List AV → AH → Option (AV × AH) := fun args h => match args with
  | [.fn k [.ptr i 0]] => if k = K1 then (match h.get i with
    | some (.cells [.map j]) => match h.get j with
      | some (.map es c) => match keysOf es with
        | some ks => if MapOk es c ks then some (rowK ks, h) else none
        | none => none
      | _ => none
    | _ => none) else none
  | _ => none
theorem keys_vals {G : Gh} : ∀ {es : List (AV × AV × Nat)} {ks : List ByteArray} {l : List Value}, keysOf es = some ks → VRs G (es.map (·.1)) l → l = ks.map .string
  | [], ks, l, h, hv => by
    simp only [keysOf, Option.some.injEq] at h; subst h
    simpa [VRs] using hv
  | (a, b, n) :: r, ks, l, h, hv => by
    simp only [List.map_cons, VRs] at hv
    obtain ⟨v, m, rfl, h1, h2⟩ := hv
    unfold keysOf at h
    split at h
    · rename_i e; cases e
    · rename_i s q1 q2 q3 e
      obtain ⟨ks', hk, rfl⟩ := Option.map_eq_some_iff.1 h
      simp only [List.cons.injEq, Prod.mk.injEq] at e
      obtain ⟨⟨rfl, _, _⟩, rfl⟩ := e
      simp only [VR] at h1; subst h1
      rw [keys_vals hk h2]; rfl
    · cases h
def sumAt (f : FuncId) (s : List AV → AH → Option (AV × AH)) : FuncId → Option (List AV → AH → Option (AV × AH)) := fun g => match Nat.beq g f with
  | true => some s
  | false => none
theorem rg_key {P : Program} {kt : TypeId} (hk : P.underlying kt = some .string) {x : MapEntry} {s : ByteArray} (hx : x.key = .string s) (hs : s.size ≤ 1000000000) : WideElems.rd P kt noR x = some (.string s.data.toList, .nil) := by
  have : keyOf P kt (.string s) = some (.string s.data.toList) := by
    unfold keyOf mapKey
    rw [hk]
    simp only
    rw [if_pos (by unfold maxLen; omega)]
  unfold WideElems.rd
  rw [hx, this]
  rfl
theorem sort_ok {P : Program} {f K1 : FuncId} {kt : TypeId} (hk : P.underlying kt = some .string) (hC : SortsKeys P f K1 kt) (he : ∀ vals w, (callFunc f vals).run P w = .ok (.enter f vals) w) (B : Nat → Prop) (w0 : World) : SumOk P B w0 (sumAt f (sortS K1)) := by
  intro g s hs args h v h' hv G w vals h1 h2
  unfold sumAt at hs
  split at hs
  case h_2 => cases hs
  rename_i hgf
  have hgf : g = f := Nat.eq_of_beq_eq_true hgf
  subst hgf
  simp only [Option.some.injEq] at hs; subst hs
  unfold sortS at hv
  split at hv
  case h_2 => cases hv
  rename_i k i
  split at hv
  case isFalse => cases hv
  rename_i hkk
  subst hkk
  split at hv
  case h_2 => cases hv
  rename_i j hi
  split at hv
  case h_2 => cases hv
  rename_i es c hj
  split at hv
  case h_2 => cases hv
  rename_i ks hks
  split at hv
  case isFalse => cases hv
  rename_i hok
  simp only [Option.some.injEq, Prod.mk.injEq] at hv
  obtain ⟨rfl, rfl⟩ := hv
  simp only [VRs, VR] at h1
  obtain ⟨_, _, rfl, ⟨lv, rfl, _, _, rfl, ⟨b, hb, rfl⟩, rfl⟩, rfl⟩ := h1
  obtain ⟨b', hb', hB1⟩ := h2.blk i _ hi
  obtain rfl : b = b' := Option.some.inj (hb.symm.trans hb')
  obtain ⟨l1, e1, hw1, hl1⟩ := hB1
  simp only [VRs, VR] at hl1
  obtain ⟨_, _, rfl, ⟨bj, hbj, rfl⟩, rfl⟩ := hl1
  obtain ⟨bj', hbj', hB2⟩ := h2.blk j _ hj
  obtain rfl : bj = bj' := Option.some.inj (hbj.symm.trans hbj')
  obtain ⟨l, hw2, hkeys, _, hborn⟩ := hB2
  have hlk := keys_vals hks hkeys
  have hlen : l.length = ks.length := by have := congrArg List.length hlk; simpa using this
  have hkey : ∀ x ∈ l, ∃ s ∈ ks, x.key = .string s := fun x hx => by
    have : x.key ∈ l.map (·.key) := List.mem_map.2 ⟨x, hx, rfl⟩
    rw [hlk] at this
    obtain ⟨s, hs, e⟩ := List.mem_map.1 this
    exact ⟨s, hs, e.symm⟩
  have hown : w.ownsMap P kt noR bj l.length (.map ((l.map (WideElems.rg P kt noR)).foldr DataW.insert [])) := by
    refine ⟨⟨l⟩, c, hw2, ⟨?_, ⟨?_, ?_, ?_⟩, ?_⟩, Nat.le_refl _, rfl⟩
    · show l.length ≤ maxLen
      have := hok.few; unfold maxLen; omega
    · intro x hx
      have : x.born ∈ es.map (·.2.2) := by rw [hborn]; exact List.mem_map.2 ⟨x, hx, rfl⟩
      obtain ⟨y, hy, e⟩ := List.mem_map.1 this
      rw [← e]; exact hok.born y hy
    · show (l.map (·.born)).Nodup
      rw [← hborn]; exact hok.once
    · show (l.map (·.key)).Nodup
      rw [hlk]
      have h3 := hok.apart
      rw [List.nodup_iff_pairwise_ne, List.pairwise_map] at h3 ⊢
      exact h3.imp fun hab e => hab (by injection e with e; rw [e])
    · intro x hx
      obtain ⟨s, hs, e⟩ := hkey x hx
      exact ⟨_, rg_key hk e (hok.short s hs)⟩
  have hrg : (l.map (WideElems.rg P kt noR)).map (fun p => strOf p.1) = ks.map fun s => s.data.toList := by
    rw [List.map_map]
    have : ∀ (l : List MapEntry) (ks : List ByteArray), l.map (·.key) = ks.map .string → (∀ s ∈ ks, s.size ≤ 1000000000) → l.map ((fun p => strOf p.1) ∘ WideElems.rg P kt noR) = ks.map fun s => s.data.toList := by
      intro l
      induction l with
      | nil =>
        intro ks h _
        cases ks with
        | nil => rfl
        | cons a r => simp at h
      | cons x l ih =>
        intro ks h hs
        cases ks with
        | nil => simp at h
        | cons s ks =>
          simp only [List.map_cons, List.cons.injEq] at h ⊢
          refine ⟨?_, ih ks h.2 fun y hy => hs y (List.mem_cons_of_mem _ hy)⟩
          show strOf (WideElems.rg P kt noR x).1 = _
          unfold WideElems.rg
          rw [rg_key hk h.1 (hs s (List.mem_cons_self ..))]
          rfl
    exact this l ks hlk hok.short
  have hperm : (strKeys (.map ((l.map (WideElems.rg P kt noR)).foldr DataW.insert []) : DataW Unit)).Perm (ks.map fun s => s.data.toList) := by
    show (((l.map (WideElems.rg P kt noR)).foldr DataW.insert []).map fun p => strOf p.1).Perm _
    rw [← hrg]
    exact (fold_perm _).map _
  have hsize : Maps.size (.map ((l.map (WideElems.rg P kt noR)).foldr DataW.insert []) : DataW Unit) = ks.length := by
    show ((l.map (WideElems.rg P kt noR)).foldr DataW.insert []).length = _
    rw [(fold_perm _).length_eq, List.length_map, hlen]
  have hcell : w.cell? ⟨b, 0, none⟩ = some (.map (some bj)) := by
    simp [World.cell?, hw1]
  have hfew := hok.few
  refine Or.inr ⟨he _ _, (hC b bj l.length _ w (h2.phi i b hb).2.1 hcell hown (by rw [hsize]; unfold maxLen; omega) (by rw [hsize]; omega)).mono ?_⟩
  rintro _ w' ⟨v, ss, rfl, hss, hrow, hnil, hbel⟩
  have hsort : ss.mergeSort (fun x y => decide (x ≤ y)) = sortK ks := mergeSort_of_perm (hss.trans hperm)
  have hssl : ss.length = ks.length := by rw [(hss.trans hperm).length_eq, List.length_map]
  have hbl : Bel (· < w.heap.size) w w' := ⟨hbel.os, hbel.tape, hbel.output, hbel.size, fun k hk => hbel.block k hk⟩
  have hW' := h2.later hbl
  show ∃ G', Gle G G' ∧ VR G' (rowK ks) v ∧ WR B w0 G' h w'
  cases ks with
  | nil =>
    have : ss = [] := List.eq_nil_of_length_eq_zero hssl
    exact ⟨G, Gle.refl G, by simp only [rowK, VR]; exact hnil.2 this, hW'⟩
  | cons s0 ks =>
    have hne : ss ≠ [] := fun e => by rw [e] at hssl; simp at hssl
    have hv0 : v ≠ .slice none 0 0 := fun e => hne (hnil.1 e)
    obtain ⟨hl1, hrow | ⟨g2, cap, cur, rfl, hg1, hg2, hn1, hn2, hn3, hn4⟩⟩ := hrow
    · exact absurd hrow.1 hv0
    rw [hsort] at hn4
    rw [Nat.mul_one] at hn4
    have hsl : (sortK (s0 :: ks)).length = (s0 :: ks).length := by unfold sortK; rw [List.length_mergeSort, List.length_map]
    have hcur : ∀ (q : Nat) (u : Value), ((sortK (s0 :: ks)).map encStr)[q]? = some u → cur[q]? = some u := by
      intro q u hu
      rw [← hn4, List.getElem?_take] at hu
      split at hu
      · simpa using hu
      · cases hu
    have hgw : g2 < w'.heap.size := by
      rcases Nat.lt_or_ge g2 w'.heap.size with h | h
      · exact h
      · rw [Array.getElem?_eq_none h] at hg2; cases hg2
    have hbase := h2.below.size
    refine ⟨G.more ⟨g2, 0, 0, (sortK (s0 :: ks)).map encStr, cur.size⟩, Gle.more _ _, ?_, hW'.more hgw ?_ ?_ (Nat.le_refl _) ⟨cur, kt, (0, 0), hg2, rfl, fun q u hu => ?_⟩ ?_⟩
    · show VR _ (.row ((sortK (s0 :: ks)).map fun l => AV.str ⟨l.toArray⟩) (s0 :: ks).length ⟨0, 0, 0, 1⟩) _
      simp only [VR]
      refine ⟨by rw [List.length_map, hsl, Nat.mul_one], by omega, Or.inr ⟨⟨g2, 0, 0, (sortK (s0 :: ks)).map encStr, cur.size⟩, 0, ⟨g2, 0, none⟩, cap, Or.inl ⟨rfl, Or.inr ⟨rfl, rfl⟩⟩, by rw [hssl], Nat.le_refl _, Nat.le_refl _, by simp, by rw [← hssl]; exact hn1, ?_, Or.inr ⟨rfl, Or.inl trivial⟩⟩⟩
      rw [List.length_map, Nat.sub_self, List.drop_zero, List.take_of_length_le (by rw [List.length_map]; exact Nat.le_refl _)]
      have : ∀ l : List (List UInt8), VRs (G.more ⟨g2, 0, 0, (sortK (s0 :: ks)).map encStr, cur.size⟩) (l.map fun l => AV.str ⟨l.toArray⟩) (l.map encStr) := by
        intro l
        induction l with
        | nil => simp [VRs]
        | cons a l ih => simp only [List.map_cons, VRs, VR]; exact ⟨_, _, rfl, rfl, ih⟩
      exact this _
    · intro q hq
      have := (h2.phi q g2 hq).2.1
      omega
    · intro q x hx hb2
      have h3 := (h2.rp q x hx).2.1
      rw [hb2] at h3
      have h3 : g2 < w.heap.size := h3
      omega
    · show cur[0 - 0 + q]? = some u
      rw [Nat.sub_self, Nat.zero_add]
      exact hcur q u hu
    · show w0.heap.size ≤ g2
      omega
end Go.Proofs.Ythlmjpfklbocjaa.EvA
