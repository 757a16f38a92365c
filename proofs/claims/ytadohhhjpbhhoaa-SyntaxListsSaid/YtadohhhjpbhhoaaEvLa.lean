/- An evaluator of the program's code over abstract values and an abstract heap: what is told of a value in other words. -/
import Derived.Test.YtadohhhjpbhhoaaEvIx
namespace Go.Proofs.Ytadohhhjpbhhoaa.EvA
open Go.RowKit
set_option linter.unusedVariables false
/-- In which words: the heap; blocks that stand for blocks; levels; of which family own rows may be told at which level; own rows that stay so; blocks that nobody writes to any more, and at which level. -/
structure WkP where
  h : AH
  blk : Nat → Nat → Prop
  lev : Nat → Nat → Prop
  ow : Nat → Nat → Prop
  own : Src → Src → Prop
  fr : Nat → Nat → Prop
def atom : AV → Bool
  | .bool _ | .int _ _ | .str _ | .nilptr | .nilrow | .nilmap | .nilfn | .niliface => true
  | _ => false
mutual
inductive Wk (K : WkP) : AV → AV → Prop
  | atom {a : AV} : atom a = true → Wk K a a
  | nilz {s : Src} : s.fam = 0 → 0 < s.size → s.id ≠ 2 → Wk K .nilrow (.row [] 0 s)
  | emp {cs : List AV} {s s' : Src} : s'.fam = 0 → s'.size = s.size → s'.id ≠ 2 → Wk K (.row cs 0 s) (.row [] 0 s')
  | keep {cs cs' : List AV} {len : Nat} {s s' : Src} : K.own s s' → Wks K cs cs' → Wk K (.row cs len s) (.row cs' len s')
  | own {cs cs' : List AV} {len : Nat} {s s' : Src} : s.fam ≠ 0 → K.h.ok s = true → s'.fam = 0 → K.ow s.fam s'.id → s'.size = s.size → Wks K cs cs' → Wk K (.row cs len s) (.row cs' len s')
  | frz {cs cs' : List AV} {len : Nat} {s s' : Src} : s.fam = 0 → s'.fam = 0 → K.lev s.id s'.id → s'.size = s.size → (s'.id = 2 → s.id = 2) → Wks K cs cs' → Wk K (.row cs len s) (.row cs' len s')
  | ptr {i j o : Nat} : K.blk i j → Wk K (.ptr i o) (.ptr j o)
  | pfz {i o : Nat} {cs cs' : List AV} {s' : Src} : K.fr i s'.id → K.h.get i = some (.cells cs) → s'.fam = 0 → Wks K cs cs' → Wk K (.ptr i o) (.eptr cs' o s')
  | eown {cs cs' : List AV} {o : Nat} {s s' : Src} : s.fam ≠ 0 → K.h.ok s = true → s'.fam = 0 → K.ow s.fam s'.id → Wks K cs cs' → Wk K (.eptr cs o s) (.eptr cs' o s')
  | efrz {cs cs' : List AV} {o : Nat} {s s' : Src} : s.fam = 0 → s'.fam = 0 → K.lev s.id s'.id → Wks K cs cs' → Wk K (.eptr cs o s) (.eptr cs' o s')
  | map {i j : Nat} : K.blk i j → Wk K (.map i) (.map j)
  | fn {f : FuncId} {cs cs' : List AV} : Wks K cs cs' → Wk K (.fn f cs) (.fn f cs')
  | mfn {f : FuncId} {cs cs' : List AV} : Wks K cs cs' → Wk K (.mfn f cs) (.mfn f cs')
  | iface {t : TypeId} {v v' : AV} : Wk K v v' → Wk K (.iface t v) (.iface t v')
  | agg {cs cs' : List AV} : Wks K cs cs' → Wk K (.agg cs) (.agg cs')
  | tup {cs cs' : List AV} : Wks K cs cs' → Wk K (.tup cs) (.tup cs')
inductive Wks (K : WkP) : List AV → List AV → Prop
  | nil : Wks K [] []
  | cons {a b : AV} {r s : List AV} : Wk K a b → Wks K r s → Wks K (a :: r) (b :: s)
end
theorem Wks.length {K : WkP} : ∀ {a b : List AV}, Wks K a b → b.length = a.length
  | _, _, .nil => rfl
  | _, _, .cons _ h => by rw [List.length_cons, List.length_cons, h.length]
/-- What the words ask for. -/
structure KOk (K : WkP) (G G' : Gh) (w : World) : Prop where
  blk : ∀ i j b, K.blk i j → G.phi i = some b → G'.phi j = some b
  lev : ∀ l l' r, K.lev l l' → G.fz l r → G'.fz l' r
  ow : ∀ i r l, G.rp i = some r → K.h.live.get i = some true → K.ow (G.fam i) l → G'.fz l r
  own : ∀ s s' r, K.own s s' → s.fam ≠ 0 ∧ (s.fam = G.fam s.id → G.rp s.id = some r → s'.fam ≠ 0 ∧ s'.fam = G'.fam s'.id ∧ G'.rp s'.id = some r ∧ s'.pos = s.pos ∧ s'.size = s.size)
  fr : ∀ i cs b l e n, K.fr i n → K.h.get i = some (.cells cs) → G.phi i = some b → w.heap[b]? = some (.cells ⟨l⟩ e (0, 0)) → G'.fz n ⟨b, 0, 0, l, l.length⟩
theorem ok_live {h : AH} {s : Src} (hf : s.fam ≠ 0) (hok : h.ok s = true) : h.live.get s.id = some true := by
  simp only [AH.ok, Bool.or_eq_true, beq_iff_eq] at hok
  rcases hok with h0 | h0
  · exact absurd h0 hf
  · cases hh : h.live.get s.id with
    | none => rw [hh] at h0; simp at h0
    | some y => rw [hh] at h0; simp at h0; rw [h0]
mutual
theorem Wk_ok {K : WkP} {G G' : Gh} {B : Nat → Prop} {w0 w : World} (hW : WR B w0 G K.h w) (hK : KOk K G G' w) : ∀ {a a' : AV}, Wk K a a' → ∀ v, VR G a v → VR G' a' v
  | _, _, .atom (a := a) h, v, hv => by
    cases a <;> first | (cases h; done) | simpa only [VR] using hv
  | _, _, .nilz (s := s) h1 h2 h9, v, hv => by
    simp only [VR] at hv ⊢
    subst hv
    exact ⟨by simp, h2, Or.inl ⟨h1, trivial, _, _, rfl, fun e => absurd e h9⟩⟩
  | _, _, .emp (s := s) (s' := s') h1 h2 h9, v, hv => by
    have hp : 0 < s.size := by simp only [VR] at hv; exact hv.2.1
    obtain ⟨a, cap, rfl⟩ := VR_row_len hv
    simp only [VR]
    exact ⟨by simp, by rw [h2]; exact hp, Or.inl ⟨h1, trivial, _, _, rfl, fun e => absurd e h9⟩⟩
  | _, _, .keep (s := s) (s' := s') h1 h2, v, hv => by
    simp only [VR] at hv ⊢
    obtain ⟨q2, q3, q⟩ := hv
    rcases q with ⟨g1, _⟩ | ⟨r, p, a, cap, ⟨g1, _⟩ | ⟨g0, g1, g2, rfl⟩, q5, q6, q7, q8, q9, q10, q11⟩
    · exact absurd g1 (hK.own s s' ⟨0, 0, 0, [], 0⟩ h1).1
    · exact absurd g1 (hK.own s s' ⟨0, 0, 0, [], 0⟩ h1).1
    · obtain ⟨k1, k2, k3, k4, k5⟩ := (hK.own s s' r h1).2 g1 g2
      refine ⟨by rw [h2.length, k5]; exact q2, by rw [k5]; exact q3, Or.inr ⟨r, s.pos, a, cap, Or.inr ⟨k1, k2, k3, k4.symm⟩, q5, q6, q7, by rw [h2.length]; exact q8, q9, ?_, q11.imp id fun h => ⟨h.1, Or.inr (by rw [k5]; exact h.2.resolve_left g0)⟩⟩⟩
      rw [h2.length]; exact Wks_ok hW hK h2 _ q10
  | _, _, .own (s := s) (s' := s') h1 h2 h3 h4 h5 h6, v, hv => by
    simp only [VR] at hv ⊢
    obtain ⟨q2, q3, q⟩ := hv
    rcases q with ⟨g1, _⟩ | ⟨r, p, a, cap, ⟨g1, _⟩ | ⟨g0, g1, g2, rfl⟩, q5, q6, q7, q8, q9, q10, q11⟩
    · exact absurd g1 h1
    · exact absurd g1 h1
    · refine ⟨by rw [h6.length, h5]; exact q2, by rw [h5]; exact q3, Or.inr ⟨r, s.pos, a, cap, Or.inl ⟨h3, hK.ow _ _ _ g2 (ok_live h1 h2) (by rw [← g1]; exact h4)⟩, q5, q6, q7, by rw [h6.length]; exact q8, q9, ?_, q11.imp id fun h => ⟨h.1, Or.inl h3⟩⟩⟩
      rw [h6.length]; exact Wks_ok hW hK h6 _ q10
  | _, _, .frz (s := s) (s' := s') h1 h3 h4 h5 h9 h6, v, hv => by
    simp only [VR] at hv ⊢
    obtain ⟨q2, q3, q⟩ := hv
    refine ⟨by rw [h6.length, h5]; exact q2, by rw [h5]; exact q3, ?_⟩
    rcases q with ⟨g1, g2, a0, cap0, g3, g4⟩ | ⟨r, p, a, cap, ⟨g0, g1⟩ | ⟨g0, _⟩, q5, q6, q7, q8, q9, q10, q11⟩
    · exact Or.inl ⟨h3, g2, a0, cap0, g3, fun e => g4 (h9 e)⟩
    · refine Or.inr ⟨r, p, a, cap, Or.inl ⟨h3, hK.lev _ _ _ h4 g1⟩, q5, q6, q7, by rw [h6.length]; exact q8, q9, ?_, q11.imp id fun h => ⟨h.1, Or.inl h3⟩⟩
      rw [h6.length]; exact Wks_ok hW hK h6 _ q10
    · exact absurd h1 g0
  | _, _, .ptr h, v, hv => by
    simp only [VR] at hv ⊢
    obtain ⟨b, h1, h2⟩ := hv
    exact ⟨b, hK.blk _ _ _ h h1, h2⟩
  | _, _, .pfz h1 h2 h3 h5, v, hv => by
    simp only [VR] at hv ⊢
    obtain ⟨b, g1, g2⟩ := hv
    obtain ⟨b2, g3, l, e, g4, g5⟩ := hW.blk _ _ h2
    have : b2 = b := Option.some.inj (g3.symm.trans g1)
    subst this
    have hl := VRs_length g5
    refine ⟨⟨b2, 0, 0, l, l.length⟩, 0, Or.inl ⟨h3, hK.fr _ _ _ _ _ _ h1 h2 g1 g4⟩, Nat.le_refl _, Nat.le_refl _, ?_, ?_, ?_⟩
    · rw [h5.length]; simp only; omega
    · simp only [Nat.sub_self, List.drop_zero]
      rw [h5.length, ← hl, List.take_length]
      exact Wks_ok hW hK h5 _ g5
    · simp only [Nat.sub_self, Nat.zero_add]; exact g2
  | _, _, .eown (s := s) (s' := s') h1 h2 h3 h4 h6, v, hv => by
    simp only [VR] at hv ⊢
    obtain ⟨r, p, ⟨g1, _⟩ | ⟨g0, g1, g2, rfl⟩, q3, q4, q5, q6, q7⟩ := hv
    · exact absurd g1 h1
    · refine ⟨r, s.pos, Or.inl ⟨h3, hK.ow _ _ _ g2 (ok_live h1 h2) (by rw [← g1]; exact h4)⟩, q3, q4, by rw [h6.length]; exact q5, ?_, q7⟩
      rw [h6.length]; exact Wks_ok hW hK h6 _ q6
  | _, _, .efrz (s := s) (s' := s') h1 h3 h4 h6, v, hv => by
    simp only [VR] at hv ⊢
    obtain ⟨r, p, ⟨g0, g1⟩ | ⟨g0, _⟩, q3, q4, q5, q6, q7⟩ := hv
    · refine ⟨r, p, Or.inl ⟨h3, hK.lev _ _ _ h4 g1⟩, q3, q4, by rw [h6.length]; exact q5, ?_, q7⟩
      rw [h6.length]; exact Wks_ok hW hK h6 _ q6
    · exact absurd h1 g0
  | _, _, .map h, v, hv => by
    simp only [VR] at hv ⊢
    obtain ⟨b, h1, h2⟩ := hv
    exact ⟨b, hK.blk _ _ _ h h1, h2⟩
  | _, _, .fn h, v, hv => by
    simp only [VR] at hv ⊢
    obtain ⟨l, h1, h2⟩ := hv
    exact ⟨l, h1, Wks_ok hW hK h _ h2⟩
  | _, _, .mfn h, v, hv => by
    simp only [VR] at hv ⊢
    obtain ⟨l, h1, h2⟩ := hv
    exact ⟨l, h1, Wks_ok hW hK h _ h2⟩
  | _, _, .iface h, v, hv => by
    simp only [VR] at hv ⊢
    obtain ⟨u, h1, h2⟩ := hv
    exact ⟨u, h1, Wk_ok hW hK h _ h2⟩
  | _, _, .agg h, v, hv => by
    simp only [VR] at hv ⊢
    obtain ⟨l, h1, h2⟩ := hv
    exact ⟨l, h1, Wks_ok hW hK h _ h2⟩
  | _, _, .tup h, v, hv => by
    simp only [VR] at hv ⊢
    obtain ⟨l, h1, h2⟩ := hv
    exact ⟨l, h1, Wks_ok hW hK h _ h2⟩
theorem Wks_ok {K : WkP} {G G' : Gh} {B : Nat → Prop} {w0 w : World} (hW : WR B w0 G K.h w) (hK : KOk K G G' w) : ∀ {a a' : List AV}, Wks K a a' → ∀ l, VRs G a l → VRs G' a' l
  | _, _, .nil, l, hl => by simpa only [VRs] using hl
  | _, _, .cons h k, l, hl => by
    simp only [VRs] at hl ⊢
    obtain ⟨v, m, h1, h2, h3⟩ := hl
    exact ⟨v, m, h1, Wk_ok hW hK h _ h2, Wks_ok hW hK k _ h3⟩
end
end Go.Proofs.Ytadohhhjpbhhoaa.EvA
