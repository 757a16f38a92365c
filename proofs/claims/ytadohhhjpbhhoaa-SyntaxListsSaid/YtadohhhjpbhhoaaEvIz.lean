/- An evaluator of the program's code over abstract values and an abstract heap: new boxes that are laid earlier than they are listed. -/
import Derived.Test.YtadohhhjpbhhoaaEvZ
namespace Go.Proofs.Ytadohhhjpbhhoaa.EvA
open Go.RowKit
set_option linter.unusedVariables false
set_option linter.unusedSimpArgs false
variable {D : List Deferred} {z : Bool}
/-! What is known, but for what came in. -/
structure Gle0 (G G' : Gh) : Prop where
  phi : ∀ i b, G.phi i = some b → G'.phi i = some b
  rp : ∀ i r, G.rp i = some r → G'.rp i = some r
  fam : ∀ i r, G.rp i = some r → G'.fam i = G.fam i
  fz : ∀ l r, G.fz l r → G'.fz l r
theorem Hd.mono0 {G G' : Gh} (g : Gle0 G G') {s : Src} {r : RP} {p : Nat} (h : Hd G s r p) : Hd G' s r p := by
  rcases h with ⟨h1, h2⟩ | ⟨h1, h2, h3, h4⟩
  · exact Or.inl ⟨h1, g.fz _ r h2⟩
  · exact Or.inr ⟨h1, h2.trans (g.fam _ _ h3).symm, g.rp _ _ h3, h4⟩
mutual
theorem VR_mono0 {G G' : Gh} (g : Gle0 G G') : ∀ (a : AV) (v : Value), VR G a v → VR G' a v
  | .bool b, v, h => by simpa only [VR] using h
  | .int k n, v, h => by simpa only [VR] using h
  | .str s, v, h => by simpa only [VR] using h
  | .nilptr, v, h => by simpa only [VR] using h
  | .ptr i o, v, h => by simp only [VR] at h ⊢; obtain ⟨b, h1, h2⟩ := h; exact ⟨b, g.phi i b h1, h2⟩
  | .eptr cs o s, v, h => by
    simp only [VR] at h ⊢
    obtain ⟨r, p, h1, h3, h4, h5, h6, h7⟩ := h
    exact ⟨r, p, h1.mono0 g, h3, h4, h5, VRs_mono0 g cs _ h6, h7⟩
  | .nilrow, v, h => by simpa only [VR] using h
  | .row cs len s, v, h => by
    simp only [VR] at h ⊢
    obtain ⟨h2, h3, h⟩ := h
    refine ⟨h2, h3, ?_⟩
    rcases h with h | ⟨r, p, a, cap, h4, h5, h6, h7, h8, h9, h10, h11⟩
    · exact Or.inl h
    · exact Or.inr ⟨r, p, a, cap, h4.mono0 g, h5, h6, h7, h8, h9, VRs_mono0 g cs _ h10, h11⟩
  | .nilmap, v, h => by simpa only [VR] using h
  | .map i, v, h => by simp only [VR] at h ⊢; obtain ⟨b, h1, h2⟩ := h; exact ⟨b, g.phi i b h1, h2⟩
  | .nilfn, v, h => by simpa only [VR] using h
  | .fn f cs, v, h => by simp only [VR] at h ⊢; obtain ⟨l, h1, h2⟩ := h; exact ⟨l, h1, VRs_mono0 g cs _ h2⟩
  | .niliface, v, h => by simpa only [VR] using h
  | .iface t x, v, h => by simp only [VR] at h ⊢; obtain ⟨u, h1, h2⟩ := h; exact ⟨u, h1, VR_mono0 g x _ h2⟩
  | .agg cs, v, h => by simp only [VR] at h ⊢; obtain ⟨l, h1, h2⟩ := h; exact ⟨l, h1, VRs_mono0 g cs _ h2⟩
  | .tup cs, v, h => by simp only [VR] at h ⊢; obtain ⟨l, h1, h2⟩ := h; exact ⟨l, h1, VRs_mono0 g cs _ h2⟩
  | .mfn f cs, v, h => by simp only [VR] at h ⊢; obtain ⟨l, h1, h2⟩ := h; exact ⟨l, h1, VRs_mono0 g cs _ h2⟩
theorem VRs_mono0 {G G' : Gh} (g : Gle0 G G') : ∀ (a : List AV) (l : List Value), VRs G a l → VRs G' a l
  | [], l, h => by simpa only [VRs] using h
  | a :: r, l, h => by simp only [VRs] at h ⊢; obtain ⟨v, m, h1, h2, h3⟩ := h; exact ⟨v, m, h1, VR_mono0 g a v h2, VRs_mono0 g r m h3⟩
end
theorem BR_mono0 {G G' : Gh} (g : Gle0 G G') {w : World} {b : Nat} {x : ABlk} (h : BR G w b x) : BR G' w b x := by
  cases x with
  | cells cs => obtain ⟨l, e, h1, h2⟩ := h; exact ⟨l, e, h1, VRs_mono0 g _ _ h2⟩
  | map es c => obtain ⟨l, h1, h2, h3, h4⟩ := h; exact ⟨l, h1, VRs_mono0 g _ _ h2, VRs_mono0 g _ _ h3, h4⟩
def Gh.withZ (G : Gh) (Z : Nat → RP → Prop) : Gh := { G with z := Z }
theorem withZ_le (G : Gh) (Z : Nat → RP → Prop) : Gle0 G (G.withZ Z) := ⟨fun _ _ h => h, fun _ _ h => h, fun _ _ _ => rfl, fun _ _ h => h⟩
theorem withZ_ge (G : Gh) (Z : Nat → RP → Prop) : Gle0 (G.withZ Z) G := ⟨fun _ _ h => h, fun _ _ h => h, fun _ _ _ => rfl, fun _ _ h => h⟩
/-- A block that nobody knows of. -/
structure Free (B : Nat → Prop) (G : Gh) (w : World) (b : Nat) : Prop where
  lt : b < w.heap.size
  out : ¬ B b
  phi : ∀ i, G.phi i ≠ some b
  rp : ∀ i r, G.rp i = some r → r.b ≠ b
  fz : ∀ l r, G.fz l r → r.b ≠ b
/-- Blocks that nobody knows of are fenced in. -/
theorem WR.fence {B X : Nat → Prop} {w0 w : World} {G : Gh} {h : AH} (hW : WR B w0 G h w) (hX : ∀ b, X b → Free B G w b) : WR (fun k => B k ∨ X k) w (G.withZ G.fz) h w := by
  have hbs := hW.below.size
  refine ⟨Bel.refl _ w, ?_, ?_, hW.inj, ?_, hW.rp, hW.row, ?_, hW.chain, hW.same, hW.sorted, hW.org, hW.nz, hW.fn, hW.fz, fun l r hr => Or.inl hr⟩
  · rintro k (hk | hk)
    · have := hW.base k hk; omega
    · exact (hX k hk).lt
  · intro i b hb
    obtain ⟨h1, h2, h3⟩ := hW.phi i b hb
    exact ⟨h1, h2, fun h => h.elim h3 fun hx => (hX b hx).phi i hb⟩
  · intro i x hx
    obtain ⟨b, hb, hr⟩ := hW.blk i x hx
    exact ⟨b, hb, BR_mono0 (withZ_le G _) hr⟩
  · intro i r hr hf
    obtain ⟨h1, h2⟩ := hW.own i r hr hf
    exact ⟨fun h => h.elim h1 fun hx => (hX _ hx).rp i r hr rfl, h2⟩
theorem WR.unfence {B X : Nat → Prop} {w0 w w2 : World} {G G2 : Gh} {h h2 : AH} (hW : WR B w0 G h w) (hX : ∀ b, X b → Free B G w b) (hle : Gle (G.withZ G.fz) G2) (hW2 : WR (fun k => B k ∨ X k) w G2 h2 w2) :
    WR B w0 (G2.withZ G.z) h2 w2 ∧ Gle G (G2.withZ G.z) ∧ ∀ b, X b → Free B (G2.withZ G.z) w2 b ∧ w2.heap[b]? = w.heap[b]? := by
  have hbs := hW.below.size
  have hbs2 := hW2.below.size
  have hz : ∀ l r, G2.z l r → G.fz l r := fun l r hr => by rw [hle.z] at hr; exact hr
  refine ⟨⟨hW.below.trans (hW2.below.mono fun k hk => Or.inl hk), hW.base, ?_, hW2.inj, ?_, hW2.rp, hW2.row, ?_, hW2.chain, hW2.same, hW2.sorted, hW2.org, hW2.nz, hW2.fn, hW2.fz, ?_⟩, ⟨hle.phi, hle.rp, hle.fam, hle.fz, rfl⟩, fun b hb => ⟨⟨?_, (hX b hb).out, ?_, ?_, ?_⟩, hW2.below.block b (Or.inr hb)⟩⟩
  · intro i b hb
    obtain ⟨h1, h2, h3⟩ := hW2.phi i b hb
    exact ⟨h1, h2, fun h => h3 (Or.inl h)⟩
  · intro i x hx
    obtain ⟨b, hb, hr⟩ := hW2.blk i x hx
    exact ⟨b, hb, BR_mono0 (withZ_le G2 _) hr⟩
  · intro i r hr hf
    obtain ⟨h1, h2⟩ := hW2.own i r hr hf
    exact ⟨fun h => h1 (Or.inl h), h2⟩
  · intro l r hr
    rcases hW2.fo l r hr with h0 | h0
    · rcases hW.fo l r (hz l r h0) with h1 | h1
      · exact Or.inl h1
      · exact Or.inr h1
    · exact Or.inr (by omega)
  · have := (hX b hb).lt; omega
  · intro i hi
    exact (hW2.phi i b hi).2.2 (Or.inr hb)
  · intro i r hr e
    have := (hW2.own i r hr (hW2.nz i r hr)).1
    rw [e] at this
    exact this (Or.inr hb)
  · intro l r hr e
    rcases hW2.fo l r hr with h0 | h0
    · exact (hX b hb).fz l r (hz l r h0) e
    · have := (hX b hb).lt; omega
/-- A block that nobody knew of is one's own now. -/
theorem WR_claim {B : Nat → Prop} {w0 w : World} {G : Gh} {h : AH} (hW : WR B w0 G h w) {b : Nat} (hF : Free B G w b) {x : ABlk} (hx : BR (G.bind h.next b) w b x) : WR B w0 (G.bind h.next b) (h.new x) w := by
  have g := bind_le hW b
  refine ⟨hW.below, hW.base, ?_, ?_, ?_, ?_, hW.row, hW.own, hW.chain, hW.same, hW.sorted, hW.org, hW.nz, hW.fn, ?_, hW.fo⟩
  · intro i c hc
    simp only [Gh.bind] at hc
    split at hc
    · rename_i e
      simp only [Option.some.injEq] at hc
      subst hc
      exact ⟨by rw [e]; show h.next < h.next + 1; omega, hF.lt, hF.out⟩
    · obtain ⟨h1, h2, h3⟩ := hW.phi i c hc
      exact ⟨by show i < h.next + 1; omega, h2, h3⟩
  · intro i j c hi hj
    simp only [Gh.bind] at hi hj
    split at hi <;> split at hj
    · omega
    · simp only [Option.some.injEq] at hi
      subst hi; exact absurd hj (hF.phi j)
    · simp only [Option.some.injEq] at hj
      subst hj; exact absurd hi (hF.phi i)
    · exact hW.inj i j c hi hj
  · intro i y hy
    rw [get_new] at hy
    split at hy
    · rename_i e
      simp only [Option.some.injEq] at hy
      subst hy
      exact ⟨b, by simp [Gh.bind, e], hx⟩
    · obtain ⟨c, hc, hr⟩ := hW.blk i y hy
      exact ⟨c, g.phi i c hc, BR_mono g rfl hr⟩
  · intro i r hr
    obtain ⟨h1, h2, h3, h4⟩ := hW.rp i r hr
    refine ⟨h1, h2, h3, fun j hj => ?_⟩
    simp only [Gh.bind] at hj
    split at hj
    · simp only [Option.some.injEq] at hj
      exact hF.rp i r hr hj.symm
    · exact h4 j hj
  · intro l r hr
    obtain ⟨h1, h2, h3, h4⟩ := hW.fz l r hr
    refine ⟨h1, fun j hj => ?_, h3, h4⟩
    simp only [Gh.bind] at hj
    split at hj
    · simp only [Option.some.injEq] at hj
      exact hF.fz l r hr hj.symm
    · exact h2 j hj
theorem Free.bind {B : Nat → Prop} {w : World} {G : Gh} {b c i : Nat} (h : Free B G w b) (hne : b ≠ c) : Free B (G.bind i c) w b :=
  ⟨h.lt, h.out, fun j hj => by
    simp only [Gh.bind] at hj
    split at hj
    · simp only [Option.some.injEq] at hj; exact hne hj.symm
    · exact h.phi j hj, h.rp, h.fz⟩
theorem Free.alloc {B : Nat → Prop} {w : World} {G : Gh} {b : Nat} (h : Free B G w b) (o : Obj) : Free B G (w.alloc o) b :=
  ⟨by have : (w.alloc o).heap.size = w.heap.size + 1 := by show (w.heap.push _).size = _; simp
      have := h.lt; omega, h.out, h.phi, h.rp, h.fz⟩
theorem Free.new {B : Nat → Prop} {w0 w : World} {G : Gh} {h : AH} (hW : WR B w0 G h w) (o : Obj) : Free B G (w.alloc o) w.heap.size :=
  ⟨by have : (w.alloc o).heap.size = w.heap.size + 1 := by show (w.heap.push _).size = _; simp
      omega, hW.fresh, fun i hi => by have := (hW.phi i _ hi).2.1; omega, fun i r hr e => by have := (hW.rp i r hr).2.1; omega, fun l r hr e => by have := (hW.fz l r hr).1; omega⟩
/-! Temporaries that differ at some places. -/
structure Ovr (L : List Nat) (a a0 : Act) : Prop where
  size : a.tmps.size = a0.tmps.size
  defers : a.defers = a0.defers
  same : ∀ t, t ∉ L → a.tmps[t]? = a0.tmps[t]?
theorem Ovr.refl (a : Act) : Ovr [] a a := ⟨rfl, rfl, fun _ _ => rfl⟩
theorem Ovr.put {L : List Nat} {a a0 : Act} (h : Ovr L a a0) (d : Option Nat) (v : Value) : Ovr L (a.put d v) (a0.put d v) := by
  cases d with
  | none => exact h
  | some d => exact ⟨by simp [Act.put, h.size], h.defers, fun t ht => by
      show (a.tmps.setIfInBounds d v)[t]? = (a0.tmps.setIfInBounds d v)[t]?
      rw [Array.getElem?_setIfInBounds, Array.getElem?_setIfInBounds, h.same t ht, h.size]⟩
theorem Ovr.eval {L : List Nat} {a a0 : Act} (h : Ovr L a a0) {x : Operand} (hx : ∀ t, x = .tmp t → t ∉ L) : a.eval x = a0.eval x := by
  cases x with
  | tmp t =>
    show a.tmps.getD t undef = a0.tmps.getD t undef
    rw [Array.getD_eq_getD_getElem?, Array.getD_eq_getD_getElem?, h.same t (hx t rfl)]
  | _ => rfl
theorem put_same {a : Act} {d : Option Nat} {v : Value} {t : Nat} (h : d ≠ some t) : (a.put d v).tmps[t]? = a.tmps[t]? := by
  cases d with
  | none => rfl
  | some d =>
    show (a.tmps.setIfInBounds d v)[t]? = _
    rw [Array.getElem?_setIfInBounds, if_neg (fun e => h (by rw [e]))]
theorem put_size {a : Act} {d : Option Nat} {v : Value} : (a.put d v).tmps.size = a.tmps.size := by
  cases d with
  | none => rfl
  | some d => simp [Act.put]
theorem wp_over {P : Program} {o : Oper} {L : List Nat} {a a0 : Act} {w : World} {K0 K : Act → World → Prop} {Q : Exit → Act → World → Prop} (ho : Ovr L a a0) (hs : ∀ cs b, o.op ≠ .select cs b) (hl : ∀ t, Operand.tmp t ∈ o.op.operands → t ∉ L)
    (h : o.wp P a0 w K0 (fun _ _ _ => False)) (hK : ∀ a' a0' w', Ovr L a' a0' → (∀ t, o.dst ≠ some t → a'.tmps[t]? = a.tmps[t]?) → a'.tmps.size = a.tmps.size → K0 a0' w' → K a' w') : o.wp P a w K Q := by
  have hP : ∀ v w', K0 (a0.put o.dst v) w' → K (a.put o.dst v) w' := fun v w' hk => hK _ _ _ (ho.put _ _) (fun t ht => put_same ht) put_size hk
  have hD : ∀ d v w', K0 (({ a0 with defers := d :: a0.defers } : Act).put o.dst v) w' → K (({ a with defers := d :: a.defers } : Act).put o.dst v) w' := fun d v w' hk =>
    hK _ _ _ (Ovr.put (a := { a with defers := d :: a.defers }) (a0 := { a0 with defers := d :: a0.defers }) ⟨ho.size, congrArg (List.cons _) ho.defers, ho.same⟩ _ _) (fun t ht => put_same (a := { a with defers := d :: a.defers }) ht) (put_size (a := { a with defers := d :: a.defers })) hk
  unfold Oper.wp at h ⊢
  rw [execOp_congr o hs (fun x hx => ho.eval fun t ht => hl t (ht ▸ hx))]
  generalize (execOp a0.eval o).run P w = r at h ⊢
  cases r with
  | ok n w' =>
    cases n <;> simp only [Oper.upon] at h ⊢ <;>
      first
        | exact hP _ _ h
        | exact Calls.mono h (fun e w'' he => by
            cases e <;> first | exact hP _ _ he | exact he.elim | (obtain ⟨_, _, hh⟩ := he; exact hh.elim))
        | exact Rows.mono h (fun _ _ he => hP _ _ he)
        | exact hD _ _ _ h
        | exact h
  | halt x w' => cases x <;> simp only [Oper.upon] at h ⊢ <;> first | exact h.elim | exact h
theorem yield_over {ops : Array Oper} {L : List Nat} {a a0 : Act} (ho : Ovr L a a0) {j : Nat} (hl : ∀ d, (ops[j]?).bind (·.dst) = some d → d ∉ L) : yielded ops a.tmps j = yielded ops a0.tmps j := by
  unfold yielded
  cases hd : (ops[j]?).bind (·.dst) with
  | none => rfl
  | some d =>
    simp only [Option.bind_some]
    rw [ho.same d (hl d hd)]
theorem wanted_over {ops : Array Oper} {o : Oper} {L : List Nat} {a a0 : Act} (ho : Ovr L a a0) (hl : ∀ t ∈ looks ops o, t ∉ L) : Region.wanted o (yielded ops a.tmps) = Region.wanted o (yielded ops a0.tmps) := by
  unfold Region.wanted
  cases hg : o.guard with
  | none => rfl
  | some jw =>
    obtain ⟨j, want⟩ := jw
    simp only
    rw [yield_over ho]
    intro d hd
    refine hl d (List.mem_append_right _ ?_)
    simp only [hg]
    rw [hd]; simp
/-! A region's run with boxes that were laid early. -/
/-- One of them: its place in the region, where its address goes, its block. -/
structure Box where
  k : Nat
  d : Nat
  b : Nat
def dsts (l : List Box) : List Nat := l.map (·.d)
structure BoxOk (P : Program) (ops : Array Oper) (m q : Nat) (B : Nat → Prop) (G : Gh) (w : World) (a : Act) (x : Box) : Prop where
  lo : m ≤ x.k
  hi : x.k < m + q
  dst : (opAt ops x.k).dst = some x.d
  guard : (opAt ops x.k).guard = none
  free : Free B G w x.b
  cells : ∃ t zv ti, (opAt ops x.k).op = .alloc t ∧ P.info? t = some ti ∧ ti.zero = some zv ∧ w.heap[x.b]? = some (.cells zv.cells t (0, 0))
  val : a.tmps[x.d]? = some (.pointer (some ⟨x.b, 0, none⟩)) ∨ a.tmps.size ≤ x.d
/-- Boxes laid early are told one by one. -/
theorem claims {P : Program} {ops : Array Oper} {call : Fn} {T : Nat → Tmps} {H : Nat → AH} {m q : Nat} {B : Nat → Prop} {w0 w : World} (hr : Run z P ops call T H) (hmq : m + q ≤ ops.size) {a : Act} {l : List Box} (hl : ∀ k, m ≤ k → k < m + q → ∃ x ∈ l, x.k = k) (hinj : ∀ x ∈ l, ∀ y ∈ l, x.k = y.k → x = y) (hb : ∀ x ∈ l, ∀ y ∈ l, x.b = y.b → x = y) (hdst : ∀ x ∈ l, ∀ y ∈ l, x.d = y.d → x = y)
    {G : Gh} {a0 : Act} {ts : Tmps} (h1 : VRs G ts a0.tmps.toList) (h2 : WR B w0 G (H m) w) (hlen : ts.length = (T 0).length) (hd : a0.defers = D) (hov : Ovr (dsts l) a a0) (hok : ∀ x ∈ l, BoxOk P ops m q B G w a x) :
    ∀ r, r ≤ q → ∃ G' a1 ts1, Gle G G' ∧ VRs G' ts1 a1.tmps.toList ∧ WR B w0 G' (H (m + r)) w ∧ a1.defers = D ∧ Ovr (dsts (l.filter fun x => decide (m + r ≤ x.k))) a a1 ∧ ts1.length = ts.length ∧ (∀ x ∈ l, m + r ≤ x.k → BoxOk P ops m q B G' w a x) ∧
      (∀ t, (∀ x ∈ l, x.k < m + r → x.d ≠ t) → nth ts1 t = nth ts t) ∧ (∀ x ∈ l, x.k < m + r → nth ts1 x.d = nth (T (x.k + 1)) x.d) := by
  intro r
  induction r with
  | zero =>
    intro _
    refine ⟨G, a0, ts, Gle.refl G, h1, h2, hd, ?_, rfl, fun x hx _ => hok x hx, fun t _ => rfl, fun x hx hxk => ?_⟩
    · have : (l.filter fun x => decide (m + 0 ≤ x.k)) = l := List.filter_eq_self.2 fun x hx => decide_eq_true (hok x hx).lo
      rw [this]; exact hov
    · have := (hok x hx).lo; omega
  | succ r ih =>
    intro hrq
    obtain ⟨G1, a1, ts1, g1, g2, g3, g4, g5, g6, g7, g8, g9⟩ := ih (by omega)
    obtain ⟨x, hx, hxk⟩ := hl (m + r) (by omega) (by omega)
    have hB := g7 x hx (by omega)
    obtain ⟨t, zv, ti, c1, c2, c3, c4⟩ := hB.cells
    obtain ⟨kv, v, r1, r2, r3⟩ := run_val hr (show m + r < ops.size by omega)
    have hdx := hB.dst
    rw [← hxk] at r1 r2 r3
    unfold kVal at r1
    rw [hB.guard] at r1
    have hcop : cOpZ z P (opAt ops x.k).op = cOp P (.alloc t) := by rw [c1]; cases z <;> rfl
    rw [hcop] at r1
    obtain ⟨s, z0, hz0, rfl⟩ : ∃ s z0, toAV 300 zv = some z0 ∧ kv = oBox s (xC z0) := by
      simp only [cOp] at r1
      split at r1
      · cases r1
      · rename_i a0' ha0
        split at ha0
        · rename_i s z0 q1 q2
          simp only [Option.some.injEq] at ha0 r1
          subst ha0; subst r1
          refine ⟨s, z0, ?_, rfl⟩
          unfold zeroT at q2
          rw [c2, Option.bind_some, c3, Option.bind_some] at q2
          exact q2
        · cases ha0
    simp only [oBox] at r2
    split at r2
    · rename_i hsz
      simp only [Option.some.injEq, Prod.mk.injEq] at r2
      obtain ⟨rfl, hH⟩ := r2
      rw [hxk] at hH r3
      have hvz := VR_const G1 _ zv z0 hz0
      have hble := bind_le g3 x.b
      have hW := WR_claim g3 hB.free (x := .cells z0.cells) ⟨zv.cells.toList, t, c4, VRs_mono hble _ _ (cells_ok hvz)⟩
      have hdx' : (opAt ops (m + r)).dst = some x.d := by rw [← hxk]; exact hB.dst
      refine ⟨G1.bind (H (m + r)).next x.b, a1.put (some x.d) (.pointer (some ⟨x.b, 0, none⟩)), upd ts1 (.ptr (H (m + r)).next 0) x.d, g1.trans hble, ?_, ?_, ?_, ?_, ?_, ?_, ?_, ?_⟩
      · exact VRs_upd (VRs_mono hble _ _ g2) (by simp only [VR]; exact ⟨x.b, by simp [Gh.bind], rfl⟩) x.d
      · rw [show m + (r + 1) = m + r + 1 by omega, ← hH]; exact hW
      · exact g4
      · refine ⟨by simp [Act.put, g5.size], g5.defers, fun t' ht' => ?_⟩
        show a.tmps[t']? = (a1.tmps.setIfInBounds x.d _)[t']?
        rw [Array.getElem?_setIfInBounds]
        split
        · rename_i e
          subst e
          rcases hB.val with h0 | h0
          · rw [h0]
            have : x.d < a.tmps.size := (Array.getElem?_eq_some_iff.1 h0).1
            rw [if_pos (by rw [← g5.size]; exact this)]
          · rw [Array.getElem?_eq_none h0, if_neg (by rw [← g5.size]; omega)]
        · rename_i e
          refine g5.same t' fun hm => ?_
          obtain ⟨y, hy, hyd⟩ := List.mem_map.1 hm
          obtain ⟨hy1, hy2⟩ := List.mem_filter.1 hy
          have hyk := of_decide_eq_true hy2
          by_cases hk : y.k = m + r
          · have := hinj y hy1 x hx (by rw [hk, hxk])
            subst this
            exact e hyd
          · exact ht' (List.mem_map.2 ⟨y, List.mem_filter.2 ⟨hy1, decide_eq_true (by omega)⟩, hyd⟩)
      · rw [upd_length]; exact g6
      · intro y hy hyk
        have h0 := g7 y hy (by omega)
        exact ⟨h0.lo, h0.hi, h0.dst, h0.guard, h0.free.bind fun e => by have := hb y hy x hx e; subst this; omega, h0.cells, h0.val⟩
      · intro t' ht'
        rw [nth_upd_ne (fun e => ht' x hx (by omega) e.symm)]
        exact g8 t' fun y hy hyk => ht' y hy (by omega)
      · intro y hy hyk
        by_cases e : y.k = m + r
        · have := hinj y hy x hx (by rw [e, hxk])
          subst this
          rw [e, r3, hdx']
          exact nth_upd_same (b := T (m + r)) (by rw [g6, hlen]; exact (run_len hr _ (by omega)).symm) _ _
        · rw [nth_upd_ne (fun e2 => e (by have := hdst y hy x hx e2; subst this; exact hxk))]
          exact g9 y hy (by omega)
    · cases r2
/-- Where a run stands whose boxes are not all told yet. -/
structure At1 (z : Bool) (ops : Array Oper) (T : Nat → Tmps) (H : Nat → AH) (m q : Nat) (listed : Array Bool) (ts : Tmps) (h : AH) (p : Nat) : Prop where
  len : ts.length = (T 0).length
  done : ∀ i t, i < m → listed.getD i false = true → (opAt ops i).dst = some t → nth ts t = nth (T ops.size) t
  rest : ∀ t, (∀ i, i < m → listed.getD i false = true → (opAt ops i).dst ≠ some t) → nth ts t = nth (T 0) t
  ple : p ≤ m
  eff : ∀ i, i < m → 2 ≤ clsZ z (opAt ops i).op → (listed.getD i false = true ↔ i < p)
  heap : h = H p
  tail : ∀ i, m + q ≤ i → i < ops.size → listed.getD i false = false
theorem lateL_cls {o : Oper} (h : isLate o = true) : ∃ t d, o.op = .alloc t ∧ o.dst = some d ∧ o.guard = none := by
  obtain ⟨dst, op, ty, pos, af, g⟩ := o
  unfold isLate at h
  simp only at h
  split at h
  · exact ⟨_, _, rfl, rfl, rfl⟩
  · cases h
theorem alloc_cls {t : TypeId} : 2 ≤ clsZ z (.alloc t) := by cases z <;> exact Nat.le_refl 2
/-- All that turns the heap ahead of the boxes is done: the boxes are told. -/
theorem fl_tell {m q : Nat} {P : Program} {ops : Array Oper} {call : Fn} {T : Nat → Tmps} {H : Nat → AH} {B : Nat → Prop} {w0 : World} (hc : CallOk P B w0 call) (hfl : flT z m q ops ops.size = true) (hmq : m + q ≤ ops.size)
    (hlate : ∀ k, m ≤ k → k < m + q → isLate (opAt ops k) = true) (hr : Run z P ops call T H)
    (hck : ∀ j, j < ops.size → clsZ z (opAt ops j).op = 1 → ∀ x ∈ spots z ops j, ∃ k d v h', kVal z P ops (opAt ops j) = some k ∧ (opAt ops j).dst = some d ∧ k call (T ops.size) (H x) = some (v, h') ∧ v = nth (T ops.size) d) {Q : Exit → Act → World → Prop}
    {fuel : Nat} {rem : List Nat} (hlen : rem.length = fuel) {listed : Array Bool} {G : Gh} {h : AH} {w : World} {a a0 : Act} {ts : Tmps} {p : Nat} {l : List Box} (hnd : rem.Nodup) (hrem : ∀ i, i ∈ rem ↔ i < ops.size ∧ listed.getD i false = false) (hsz : listed.size = ops.size) (hcl : Closed ops listed)
    (hl1 : ∀ x ∈ l, listed.getD x.k false = true ∧ BoxOk P ops m q B G w a x) (hl2 : ∀ k, m ≤ k → k < m + q → listed.getD k false = true → ∃ x ∈ l, x.k = k) (hinj : ∀ x ∈ l, ∀ y ∈ l, x.k = y.k → x = y) (hbij : ∀ x ∈ l, ∀ y ∈ l, x.b = y.b → x = y)
    (h1 : VRs G ts a0.tmps.toList) (h2 : WR B w0 G h w) (hd : a0.defers = D) (hov : Ovr (dsts l) a a0) (hat : At1 z ops T H m q listed ts h p) (hQ : ∀ a' w', Sim D B w0 G (T ops.size) (H ops.size) a' w' → Q .normal a' w')
    (hall : ∀ i, i < m + q → 2 ≤ clsZ z (opAt ops i).op → listed.getD i false = true) : wpAny P .any ops Q fuel listed a w := by
  have hdinj : ∀ x ∈ l, ∀ y ∈ l, x.d = y.d → x = y := by
    intro x hx y hy e
    have hxo := (hl1 x hx).2
    have hyo := (hl1 y hy).2
    by_cases hk : x.k = y.k
    · exact hinj x hx y hy hk
    · exact absurd (e ▸ hyo.dst) (fl_dst hfl hk (by have := hxo.hi; omega) (by have := hyo.hi; omega) hxo.dst)
  have hlk : ∀ k, m ≤ k → k < m + q → listed.getD k false = true := fun k q1 q2 => by
    obtain ⟨t, d, e1, e2, e3⟩ := lateL_cls (hlate k q1 q2)
    exact hall k q2 (by rw [e1]; exact alloc_cls)
  have hHm : H m = H p := run_heap hr m hat.ple (by omega) fun k q1 q2 q3 => by
    have := (hat.eff k q2 q3).1 (hall k (by omega) q3); omega
  rw [hat.heap, ← hHm] at h2
  obtain ⟨G', a1, ts1, g1, g2, g3, g4, g5, g6, g7, g8, g9⟩ := claims hr hmq (fun k q1 q2 => hl2 k q1 q2 (hlk k q1 q2)) hinj hbij hdinj h1 h2 hat.len hd hov (fun x hx => (hl1 x hx).2) q (Nat.le_refl _)
  have hnil : (l.filter fun x => decide (m + q ≤ x.k)) = [] := List.filter_eq_nil_iff.2 fun x hx => by
    have := (hl1 x hx).2.hi
    simp; omega
  rw [hnil] at g5
  have ha : a.tmps = a1.tmps := Array.ext_getElem? fun t => g5.same t (by simp [dsts])
  rw [← ha] at g2
  refine fl_any hc hfl hr hck fuel rem hlen listed G' (H (m + q)) w a ts1 (m + q) hnd hrem hsz hcl hlk g2 g3 (g5.defers.trans g4) ⟨g6.trans hat.len, ?_, ?_, hmq, ?_, rfl⟩ (fun a2 w2 s => hQ a2 w2 (s.le g1))
  · intro i t hi hli hdt
    by_cases him : i < m
    · rw [g8 t (fun x hx _ e => by
        have hxo := (hl1 x hx).2
        exact fl_dst hfl (show i ≠ x.k by have := hxo.lo; omega) hi (by have := hxo.hi; omega) hdt (e ▸ hxo.dst))]
      exact hat.done i t him hli hdt
    · by_cases hiq : i < m + q
      · obtain ⟨x, hx, hxk⟩ := hl2 i (by omega) hiq hli
        have hxo := (hl1 x hx).2
        have hdd := hxo.dst
        rw [hxk, hdt] at hdd
        obtain rfl := Option.some.inj hdd
        rw [g9 x hx (by omega), hxk]
        exact (run_keep hr _ (by omega) (Nat.le_refl _) fun k r1 r2 => fl_dst hfl (by omega) hi r2 hdt).symm
      · rw [hat.tail i (by omega) hi] at hli; cases hli
  · intro t ht
    rw [g8 t (fun x hx _ e => ht x.k (by have := (hl1 x hx).2.hi; omega) (hl1 x hx).1 (e ▸ (hl1 x hx).2.dst))]
    exact hat.rest t fun i hi hli => ht i (by omega) hli
  · intro i hi hi2
    constructor
    · intro hli
      by_cases hiq : i < m + q
      · exact hiq
      · rw [hat.tail i (by omega) hi] at hli; cases hli
    · intro hiq; exact hall i hiq hi2
theorem fl_pre {m q : Nat} {P : Program} {ops : Array Oper} {call : Fn} {T : Nat → Tmps} {H : Nat → AH} {B : Nat → Prop} {w0 : World} (hcA : ∀ B w0, CallOk P B w0 call) (hfl : flT z m q ops ops.size = true) (hns : Region.noSelect ops = true) (hmq : m + q ≤ ops.size)
    (hlate : ∀ k, m ≤ k → k < m + q → isLate (opAt ops k) = true) (htail : ∀ i j, i < m + q → m + q ≤ j → j < ops.size → 2 ≤ clsZ z (opAt ops i).op → predT ops 12 i j = true) (hr : Run z P ops call T H)
    (hck : ∀ j, j < ops.size → clsZ z (opAt ops j).op = 1 → ∀ x ∈ spots z ops j, ∃ k d v h', kVal z P ops (opAt ops j) = some k ∧ (opAt ops j).dst = some d ∧ k call (T ops.size) (H x) = some (v, h') ∧ v = nth (T ops.size) d) {Q : Exit → Act → World → Prop} :
    ∀ (fuel : Nat) (rem : List Nat), rem.length = fuel → ∀ (listed : Array Bool) (G : Gh) (h : AH) (w : World) (a a0 : Act) (ts : Tmps) (p : Nat) (l : List Box), rem.Nodup → (∀ i, i ∈ rem ↔ i < ops.size ∧ listed.getD i false = false) → listed.size = ops.size → Closed ops listed →
    (∀ x ∈ l, listed.getD x.k false = true ∧ BoxOk P ops m q B G w a x) → (∀ k, m ≤ k → k < m + q → listed.getD k false = true → ∃ x ∈ l, x.k = k) → (∀ x ∈ l, ∀ y ∈ l, x.k = y.k → x = y) → (∀ x ∈ l, ∀ y ∈ l, x.b = y.b → x = y) →
    VRs G ts a0.tmps.toList → WR B w0 G h w → a0.defers = D → Ovr (dsts l) a a0 → At1 z ops T H m q listed ts h p → (∀ a' w', Sim D B w0 G (T ops.size) (H ops.size) a' w' → Q .normal a' w') → wpAny P .any ops Q fuel listed a w := by
  intro fuel
  induction fuel with
  | zero =>
    intro rem hlen listed G h w a a0 ts p l hnd hrem hsz hcl hl1 hl2 hinj hbij h1 h2 hd hov hat hQ
    refine fl_tell (hcA B w0) hfl hmq hlate hr hck hlen hnd hrem hsz hcl hl1 hl2 hinj hbij h1 h2 hd hov hat hQ fun i hi hi2 => ?_
    cases hl : listed.getD i false with
    | true => rfl
    | false =>
      have : i ∈ rem := (hrem i).2 ⟨by omega, hl⟩
      rw [List.eq_nil_of_length_eq_zero hlen] at this; cases this
  | succ fuel ih =>
    intro rem hlen listed G h w a a0 ts p l hnd hrem hsz hcl hl1 hl2 hinj hbij h1 h2 hd hov hat hQ
    by_cases hall : ∀ i, i < m + q → 2 ≤ clsZ z (opAt ops i).op → listed.getD i false = true
    · exact fl_tell (hcA B w0) hfl hmq hlate hr hck hlen hnd hrem hsz hcl hl1 hl2 hinj hbij h1 h2 hd hov hat hQ hall
    obtain ⟨i0, hi0, hi02, hi0u⟩ : ∃ i, i < m + q ∧ 2 ≤ clsZ z (opAt ops i).op ∧ listed.getD i false = false := by
      refine Classical.byContradiction fun hno => hall fun i q1 q2 => ?_
      cases hl : listed.getD i false with
      | true => rfl
      | false => exact absurd ⟨i, q1, q2, hl⟩ hno
    clear hall
    constructor
    · intro hrd
      exfalso
      have hall : ∀ i, i < ops.size → listed.getD i false = true := by
        intro i
        induction i using Nat.strongRecOn with
        | _ i ihi =>
          intro hi
          cases hl : listed.getD i false with
          | true => rfl
          | false =>
            have hback := fl_back hfl i hi
            have ho : ops[i]? = some ops[i] := by simp [hi]
            have hin : i ∈ Region.ready .any ops listed := by
              rw [mem_ready]
              refine ⟨by simp [hsz, hi] at hl ⊢; exact hl, ops[i], ho, fun e he hb => ?_⟩
              simp only [backT, ho, List.all_eq_true, Bool.or_eq_true, Bool.not_eq_true', decide_eq_true_eq] at hback
              have hlt2 : e.on < i := (hback e (by simpa using he)).resolve_left (by simp [hb])
              exact ihi e.on hlt2 (by omega)
            rw [hrd] at hin; cases hin
      rw [hall i0 (by omega)] at hi0u; cases hi0u
    · intro j hj
      obtain ⟨hl, o, ho, hallp⟩ := mem_ready.1 hj
      have hlt : j < ops.size := (Array.getElem?_eq_some_iff.1 ho).1
      have hun : listed.getD j false = false := by simp [hsz, hlt] at hl ⊢; exact hl
      have hoj : opAt ops j = o := by
        have := ho
        simp [hlt] at this
        simp [opAt, hlt, this]
      have hpred : ∀ i, predT ops 12 i j = true → listed.getD i false = true := fun i hp => predT_spec hcl 12 i j o hp ho hallp
      have hjs : j < listed.size := by rw [hsz]; exact hlt
      have hjq : j < m + q := by
        rcases Nat.lt_or_ge j (m + q) with h0 | h0
        · exact h0
        · rw [hpred i0 (htail i0 j hi0 h0 hlt hi02)] at hi0u; cases hi0u
      have remlen : (rem.erase j).length = fuel := by rw [List.length_erase_of_mem ((hrem j).2 ⟨hlt, hun⟩)]; omega
      have remmem : ∀ i, i ∈ rem.erase j ↔ i < ops.size ∧ (listed.setIfInBounds j true).getD i false = false := by
        intro i
        rw [hnd.mem_erase_iff, set_get hjs, hrem i]
        by_cases hij : i = j
        · simp [hij]
        · simp [hij]
      have hcl' : Closed ops (listed.setIfInBounds j true) := by
        intro i oi hoi hli e he hb
        rw [set_get hjs] at hli ⊢
        split
        · rfl
        · by_cases hij : i = j
          · subst hij
            have : oi = o := Option.some.inj (hoi.symm.trans ho)
            subst this
            exact hallp e he hb
          · rw [if_neg hij] at hli
            exact hcl i oi hoi hli e he hb
      have hxj : ∀ x ∈ l, x.k ≠ j := fun x hx e => by have := (hl1 x hx).1; rw [e, hun] at this; cases this
      have hxd : ∀ x ∈ l, (opAt ops j).dst ≠ some x.d := fun x hx e => fl_dst hfl (hxj x hx) (by have := (hl1 x hx).2.hi; omega) hlt (hl1 x hx).2.dst e
      by_cases hjm : m ≤ j
      · -- a box laid early
        obtain ⟨t, d, e1, e2, e3⟩ := lateL_cls (hlate j hjm hjq)
        obtain ⟨kv, v0, k1, k2, k3⟩ := run_val hr hlt
        unfold kVal at k1
        rw [e3, e1] at k1
        have hcop : cOpZ z P (.alloc t) = cOp P (.alloc t) := by cases z <;> rfl
        rw [hcop] at k1
        obtain ⟨ti, zv, c2, c3⟩ : ∃ ti zv, P.info? t = some ti ∧ ti.zero = some zv := by
          simp only [cOp] at k1
          split at k1
          · cases k1
          · rename_i a0' ha0
            split at ha0
            · rename_i s z0 q1 q2
              unfold zeroT at q2
              obtain ⟨zv, h4, h5⟩ := Option.bind_eq_some_iff.1 q2
              obtain ⟨ti, h6, h7⟩ := Option.bind_eq_some_iff.1 h4
              exact ⟨ti, zv, h6, h7⟩
            · cases ha0
        have hzr : (zeroValue t).run P w = .ok zv w := by
          simp [zeroValue, typeInfo, program, bind, Sem.bind, pure, Sem.run, c2, c3]
        obtain ⟨odst, oop, oty, opos, oaf, og⟩ := o
        rw [hoj] at e1 e2 e3
        simp only at e1 e2 e3
        subst e1 e2 e3
        unfold wpOp
        simp only [ho]
        rw [if_pos (by rfl)]
        left
        have hrun : (execOp a.eval ⟨some d, .alloc t, oty, opos, oaf, none⟩).run P w = .ok (.value (.pointer (some ⟨w.heap.size, 0, none⟩))) (w.alloc (.cells zv.cells t)) := by
          simp [execOp, Instr.alloc, hzr, newVar, newRow, newObj, Sem.run]
        unfold Oper.wp
        rw [hrun]
        show wpAny P .any ops Q fuel (listed.setIfInBounds j true) (a.put (some d) (.pointer (some ⟨w.heap.size, 0, none⟩))) (w.alloc (.cells zv.cells t))
        have hdj : (opAt ops j).dst = some d := by rw [hoj]
        refine ih (rem.erase j) remlen _ G h (w.alloc (.cells zv.cells t)) _ a0 ts p (⟨j, d, w.heap.size⟩ :: l) (hnd.erase j) remmem (by simpa using hsz) hcl' ?_ ?_ ?_ ?_ h1 ?_ hd ?_ ?_ hQ
        · intro x hx
          rcases List.mem_cons.1 hx with rfl | hx
          · refine ⟨by rw [set_get hjs, if_pos rfl], ⟨hjm, hjq, hdj, by rw [hoj], Free.new h2 _, ⟨t, zv, ti, by rw [hoj], c2, c3, heap_new⟩, ?_⟩⟩
            show (a.tmps.setIfInBounds d _)[d]? = _ ∨ (a.tmps.setIfInBounds d _).size ≤ d
            by_cases hds : d < a.tmps.size
            · left; simp [hds]
            · right; rw [Array.size_setIfInBounds]; exact Nat.le_of_not_lt hds
          · obtain ⟨q1, q2⟩ := hl1 x hx
            refine ⟨by rw [set_get hjs, if_neg (hxj x hx)]; exact q1, ⟨q2.lo, q2.hi, q2.dst, q2.guard, q2.free.alloc _, ?_, ?_⟩⟩
            · obtain ⟨t', zv', ti', r1, r2, r3, r4⟩ := q2.cells
              exact ⟨t', zv', ti', r1, r2, r3, (heap_alloc q2.free.lt).trans r4⟩
            · rw [put_same (a := a) (d := some d) (fun e => hxd x hx (by rw [hdj]; exact e)), put_size]
              exact q2.val
        · intro k q1 q2 q3
          rw [set_get hjs] at q3
          by_cases hkj : k = j
          · exact ⟨_, List.mem_cons_self .., hkj.symm⟩
          · rw [if_neg hkj] at q3
            obtain ⟨x, hx, hxk⟩ := hl2 k q1 q2 q3
            exact ⟨x, List.mem_cons_of_mem _ hx, hxk⟩
        · intro x hx y hy e
          rcases List.mem_cons.1 hx with rfl | hx <;> rcases List.mem_cons.1 hy with rfl | hy
          · rfl
          · exact absurd e.symm (hxj y hy)
          · exact absurd e (hxj x hx)
          · exact hinj x hx y hy e
        · intro x hx y hy e
          rcases List.mem_cons.1 hx with rfl | hx <;> rcases List.mem_cons.1 hy with rfl | hy
          · rfl
          · have := (hl1 y hy).2.free.lt; simp only at e; omega
          · have := (hl1 x hx).2.free.lt; simp only at e; omega
          · exact hbij x hx y hy e
        · exact h2.later ⟨rfl, rfl, rfl, by show w.heap.size ≤ (w.heap.push _).size; simp, fun k hk => heap_alloc hk⟩
        · refine ⟨put_size.trans hov.size, hov.defers, fun t' ht' => ?_⟩
          have hne : t' ≠ d := fun e => ht' (by rw [e]; exact List.mem_cons_self ..)
          rw [put_same (a := a) (d := some d) (fun e => hne (Option.some.inj e).symm)]
          exact hov.same t' fun hm => ht' (List.mem_cons_of_mem _ hm)
        · refine ⟨hat.len, fun i t' hi hli => ?_, fun t' ht' => ?_, hat.ple, fun i hi hi2 => ?_, hat.heap, fun i q1 q2 => ?_⟩
          · rw [set_get hjs, if_neg (by omega)] at hli
            exact hat.done i t' hi hli
          · exact hat.rest t' fun i hi hli => ht' i hi (by rw [set_get hjs, if_neg (by omega)]; exact hli)
          · rw [set_get hjs, if_neg (by omega)]; exact hat.eff i hi hi2
          · rw [set_get hjs, if_neg (by omega)]; exact hat.tail i q1 q2
      · have hjm' : j < m := by omega
        have hnl : ¬ (m ≤ j ∧ j < m + q) := fun hh => by omega
        have hlookN : ∀ t ∈ looks ops (opAt ops j), nth (T ops.size) t = nth (T j) t := fun t ht =>
          run_keep hr _ (by omega) (Nat.le_refl _) fun k q1 q2 => fl_after hfl q1 q2 ht
        have hlook : ∀ t ∈ looks ops (opAt ops j), nth ts t = nth (T j) t := by
          intro t ht
          by_cases hx : ∃ i, i < ops.size ∧ (opAt ops i).dst = some t
          · obtain ⟨i, hi, hdt⟩ := hx
            have hij : i < j := by
              rcases Nat.lt_or_ge i j with q | q
              · exact q
              · exact absurd hdt (fl_after hfl q hi ht)
            rw [hat.done i t (by omega) (hpred i (fl_ahead hfl hij hlt ht hdt)) hdt]
            exact hlookN t ht
          · rw [hat.rest t (fun i hi _ e => hx ⟨i, by omega, e⟩)]
            exact (run_keep hr _ (Nat.zero_le _) (by omega) fun k _ hk e => hx ⟨k, by omega, e⟩).symm
        obtain ⟨kv, v0, k1, k2, k3⟩ := run_val hr hlt
        have hput0 : ∀ d, (opAt ops j).dst = some d → nth (upd ts v0 d) d = nth (T ops.size) d := by
          intro d hdd
          rw [nth_upd_same (b := T j) (hat.len.trans (run_len hr j (by omega)).symm)]
          have e : upd (T j) v0 d = T (j + 1) := by rw [k3, hdd]; rfl
          rw [e]
          exact (run_keep hr _ (by omega) (Nat.le_refl _) fun k q1 q2 => fl_dst hfl (by omega) hlt q2 hdd).symm
        -- what the step gives
        have key : ∃ v p', kv call ts h = some (v, H p') ∧ (∀ d, (opAt ops j).dst = some d → nth (upd ts v d) d = nth (T ops.size) d) ∧ p' ≤ m ∧ (∀ i, i < m → 2 ≤ clsZ z (opAt ops i).op → ((i = j ∨ listed.getD i false = true) ↔ i < p')) := by
          by_cases hcj : 2 ≤ clsZ z (opAt ops j).op
          · -- an effect
            have hpj : p ≤ j := by
              rcases Nat.lt_or_ge j p with q | q
              · have := (hat.eff j hjm' hcj).2 q
                rw [hun] at this; cases this
              · exact q
            have hno : ∀ k, p ≤ k → k < j → ¬ 2 ≤ clsZ z (opAt ops k).op := by
              intro k q1 q2 q3
              have := (hat.eff k (by omega) q3).1 (hpred k (fl_eff hfl q2 hlt q3 hcj hnl))
              omega
            have hh : h = H j := by rw [hat.heap]; exact (run_heap hr j hpj (by omega) hno).symm
            refine ⟨v0, j + 1, ?_, hput0, by omega, fun i hi hi2 => ?_⟩
            · rw [hh, kVal_like k1 hlook, k2]
            · constructor
              · rintro (rfl | hli)
                · omega
                · have := (hat.eff i hi hi2).1 hli; omega
              · intro hij
                by_cases e : i = j
                · exact Or.inl e
                · exact Or.inr (hpred i (fl_eff hfl (by omega) hlt hi2 hcj hnl))
          · have heff : ∀ i, i < m → 2 ≤ clsZ z (opAt ops i).op → ((i = j ∨ listed.getD i false = true) ↔ i < p) := by
              intro i hi hi2
              rw [← hat.eff i hi hi2]
              constructor
              · rintro (rfl | h0)
                · exact absurd hi2 hcj
                · exact h0
              · exact Or.inr
            have hrds := kVal_eff k1 hcj
            have hHj : H (j + 1) = H j := hrds call _ _ _ _ k2
            have same0 : h = H j → ∃ v p', kv call ts h = some (v, H p') ∧ (∀ d, (opAt ops j).dst = some d → nth (upd ts v d) d = nth (T ops.size) d) ∧ p' ≤ m ∧ (∀ i, i < m → 2 ≤ clsZ z (opAt ops i).op → ((i = j ∨ listed.getD i false = true) ↔ i < p')) := by
              intro hh
              refine ⟨v0, p, ?_, hput0, hat.ple, heff⟩
              rw [kVal_like k1 hlook, ← hat.heap, hh, k2, hHj]
            have at0 : ∀ x, x ∈ spots z ops j → clsZ z (opAt ops j).op = 1 → h = H x → ∃ v p', kv call ts h = some (v, H p') ∧ (∀ d, (opAt ops j).dst = some d → nth (upd ts v d) d = nth (T ops.size) d) ∧ p' ≤ m ∧ (∀ i, i < m → 2 ≤ clsZ z (opAt ops i).op → ((i = j ∨ listed.getD i false = true) ↔ i < p')) := by
              intro x hx hc1 hh
              obtain ⟨k', d, v, h', q1, q2, q3, q4⟩ := hck j hlt hc1 x hx
              obtain rfl := Option.some.inj (k1.symm.trans q1)
              have hh' := hrds call _ _ _ _ q3
              subst hh'
              refine ⟨v, p, ?_, fun d' hd' => ?_, hat.ple, heff⟩
              · rw [← hat.heap, hh, kVal_like k1 (t2 := T ops.size) (fun t ht => (hlook t ht).trans (hlookN t ht).symm), q3]
              · obtain rfl := Option.some.inj (q2.symm.trans hd')
                rw [nth_upd_get]
                split
                · exact q4
                · rename_i hge
                  rw [nth_getD, List.getD_eq_getElem?_getD, List.getElem?_eq_none (by rw [run_len hr _ (Nat.le_refl _), ← hat.len]; omega)]; rfl
            have hcc : clsZ z (opAt ops j).op = 0 ∨ clsZ z (opAt ops j).op = 1 := by omega
            rcases hcc with hc0 | hc1
            · -- it touches no heap
              refine ⟨v0, p, ?_, hput0, hat.ple, heff⟩
              rw [kVal_like k1 hlook, kVal_sil k1 hc0 call call (T j) (H j) h, k2, ← hat.heap]; rfl
            · rcases Nat.lt_or_ge j p with hjp | hpj
              · by_cases hx : ∃ k, k < p ∧ (j < k ∧ 2 ≤ clsZ z (opAt ops k).op)
                · obtain ⟨x, q1, ⟨q2, q3⟩, q4⟩ := most p hx
                  have hpn := hat.ple
                  refine at0 (x + 1) ?_ hc1 (by rw [hat.heap]; exact run_heap hr p (by omega) (Nat.le_trans hat.ple (by omega)) fun k r1 r2 r3 => q4 k (by omega) r2 ⟨by omega, r3⟩)
                  have hxl : listed.getD x false = true := (hat.eff x (by omega) q3).2 q1
                  have hnp : predT ops 12 j x = false := by
                    cases hp : predT ops 12 j x with
                    | false => rfl
                    | true =>
                      have hox : ops[x]? = some ops[x] := by simp [show x < ops.size by omega]
                      have := predT_spec hcl 12 j x _ hp hox (hcl x _ hox hxl)
                      rw [hun] at this; cases this
                  unfold spots
                  refine List.mem_filterMap.2 ⟨x, List.mem_range.2 (by omega), ?_⟩
                  have q3' : decide (2 ≤ clsZ z (ops.getD x default).op) = true := decide_eq_true q3
                  rw [if_pos q3', if_neg (by omega), hnp]; rfl
                · refine same0 ?_
                  rw [hat.heap]
                  rw [run_heap hr p (show j + 1 ≤ p by omega) (Nat.le_trans hat.ple (by omega)) fun k r1 r2 r3 => hx ⟨k, r2, by omega, r3⟩]
                  exact hHj
              · by_cases hx : ∃ k, p ≤ k ∧ k < j ∧ 2 ≤ clsZ z (opAt ops k).op
                · obtain ⟨k0, hk0⟩ := hx
                  obtain ⟨x, q0, ⟨q1, q2, q3⟩, q4⟩ := least (Q := fun k => p ≤ k ∧ k < j ∧ 2 ≤ clsZ z (opAt ops k).op) k0 hk0
                  refine at0 x ?_ hc1 (by rw [hat.heap]; exact (run_heap hr x q1 (by omega) fun k r1 r2 r3 => q4 k r2 ⟨r1, by omega, r3⟩).symm)
                  have hnp : predT ops 12 x j = false := by
                    cases hp : predT ops 12 x j with
                    | false => rfl
                    | true => have := (hat.eff x (by omega) q3).1 (hpred x hp); omega
                  unfold spots
                  refine List.mem_filterMap.2 ⟨x, List.mem_range.2 (by omega), ?_⟩
                  have q3' : decide (2 ≤ clsZ z (ops.getD x default).op) = true := decide_eq_true q3
                  rw [if_pos q3', if_pos q2, hnp]; rfl
                · refine same0 ?_
                  rw [hat.heap]
                  exact (run_heap hr j hpj (by omega) fun k r1 r2 r3 => hx ⟨k, r1, r2, r3⟩).symm
        obtain ⟨v, p', kk, hput, hp', heff'⟩ := key
        obtain ⟨st, hst, _⟩ := hr.step j hlt
        obtain ⟨kv2, k1', hval⟩ := kStep_val hst
        obtain rfl := Option.some.inj (k1.symm.trans k1')
        have hLl : ∀ t ∈ looks ops (opAt ops j), t ∉ dsts l := fun t ht hm => by
          obtain ⟨x, hx, rfl⟩ := List.mem_map.1 hm
          have hxo := (hl1 x hx).2
          exact fl_after hfl (show j ≤ x.k by have := hxo.lo; omega) (by have := hxo.hi; omega) ht hxo.dst
        have hXF : ∀ b, (∃ x ∈ l, x.b = b) → Free B G w b := fun b ⟨x, hx, e⟩ => e ▸ (hl1 x hx).2.free
        have hstep := step_ok (Q := fun _ _ _ => False) (o := opAt ops j) hst (hcA (fun k => B k ∨ ∃ x ∈ l, x.b = k) w) (VRs_mono0 (withZ_le G G.fz) _ _ h1) (h2.fence hXF) hd (ts' := putT ts (opAt ops j).dst v) (h' := H p') (by rw [hval, kk]; rfl) (K := fun a' w' => Sim D (fun k => B k ∨ ∃ x ∈ l, x.b = k) w (G.withZ G.fz) (putT ts (opAt ops j).dst v) (H p') a' w') (fun a' w' s => s)
        have cont : ∀ a' a0' w', Ovr (dsts l) a' a0' → (∀ t, (opAt ops j).dst ≠ some t → a'.tmps[t]? = a.tmps[t]?) → a'.tmps.size = a.tmps.size → Sim D (fun k => B k ∨ ∃ x ∈ l, x.b = k) w (G.withZ G.fz) (putT ts (opAt ops j).dst v) (H p') a0' w' → wpAny P .any ops Q fuel (listed.setIfInBounds j true) a' w' := by
          rintro a' a0' w' hov' hsame hsize ⟨G1, g1, g2, g3, g4⟩
          obtain ⟨u1, u2, u3⟩ := h2.unfence hXF g1 g3
          refine ih (rem.erase j) remlen _ (G1.withZ G.z) (H p') w' a' a0' (putT ts (opAt ops j).dst v) p' l (hnd.erase j) remmem (by simpa using hsz) hcl' ?_ ?_ hinj hbij (VRs_mono0 (withZ_le G1 _) _ _ g2) u1 g4 hov' ?_ (fun a2 w2 s => hQ a2 w2 (s.le u2))
          · intro x hx
            obtain ⟨q1, q2⟩ := hl1 x hx
            obtain ⟨u4, u5⟩ := u3 x.b ⟨x, hx, rfl⟩
            refine ⟨by rw [set_get hjs, if_neg (hxj x hx)]; exact q1, ⟨q2.lo, q2.hi, q2.dst, q2.guard, u4, ?_, ?_⟩⟩
            · obtain ⟨t', zv', ti', r1, r2, r3, r4⟩ := q2.cells
              exact ⟨t', zv', ti', r1, r2, r3, u5.trans r4⟩
            · rw [hsame x.d (hxd x hx), hsize]; exact q2.val
          · intro k q1 q2 q3
            rw [set_get hjs, if_neg (by omega)] at q3
            exact hl2 k q1 q2 q3
          · refine ⟨by rw [putT_length, hat.len], ?_, ?_, hp', ?_, rfl, fun i q1 q2 => ?_⟩
            · intro i t hi hli hdt
              rw [set_get hjs] at hli
              by_cases hij : i = j
              · subst hij
                rw [hdt]; exact hput t hdt
              · rw [if_neg hij] at hli
                have := hat.done i t hi hli hdt
                cases hdj : (opAt ops j).dst with
                | none => exact this
                | some d =>
                  simp only [putT]
                  rw [nth_upd_ne (fun e => fl_dst hfl hij (by omega) hlt hdt (by rw [hdj, e]))]
                  exact this
            · intro t hn
              have h0 := hat.rest t fun i hi hli => hn i hi (by rw [set_get hjs]; split <;> first | rfl | exact hli)
              cases hdj : (opAt ops j).dst with
              | none => exact h0
              | some d =>
                simp only [putT]
                have := hn j hjm' (by rw [set_get hjs, if_pos rfl])
                rw [nth_upd_ne (fun e => this (by rw [hdj, e]))]
                exact h0
            · intro i hi hi2
              rw [set_get hjs, ← heff' i hi hi2]
              by_cases hij : i = j
              · simp [hij]
              · simp [hij]
            · rw [set_get hjs, if_neg (by omega)]; exact hat.tail i q1 q2
        have hsel : ∀ cs b, (opAt ops j).op ≠ .select cs b := fun cs b e => Region.noSelect_spec hns j o cs b ho (by rw [← hoj]; exact e)
        unfold wpOp
        simp only [ho]
        rw [← hoj, wanted_over hov hLl]
        split
        · rename_i hw
          rw [if_pos hw] at hstep
          rcases hstep with hstep | ⟨_, _, _, hstep⟩
          · exact Or.inl (wp_over hov hsel (fun t ht => hLl t (List.mem_append_left _ (List.mem_filterMap.2 ⟨.tmp t, by simpa using ht, rfl⟩))) hstep cont)
          · exact hstep.elim
        · rename_i hw
          rw [if_neg hw] at hstep
          exact cont _ _ _ (hov.put _ _) (fun t ht => put_same ht) put_size hstep
theorem floatL_ok {P : Program} {ops : Array Oper} {k : KR} (hk : cFlL z P ops = some k) {call : Fn} {B : Nat → Prop} {w0 w : World} (hcA : ∀ B w0, CallOk P B w0 call) {Q : Exit → Act → World → Prop} {G : Gh} {h h' : AH} {a : Act} {ts ts' : Tmps} {id : Nat}
    (h1 : VRs G ts a.tmps.toList) (h2 : WR B w0 G h w) (hd : a.defers = D) (h3 : k call ts h = some (ts', h')) (hQ : ∀ a' w', Sim D B w0 G ts' h' a' w' → Q .normal a' w') : (Code.region id ops true).wp P Q a w := by
  unfold cFlL at hk
  split at hk
  · cases hk
  · rename_i hT
    simp only [Bool.and_eq_true] at hT
    obtain ⟨⟨⟨hT1, hT2⟩, hT3⟩, hT4⟩ := hT
    simp only [lateT, Bool.and_eq_true, List.all_eq_true, List.mem_range] at hT4
    obtain ⟨⟨hL1, hL2⟩, hL3⟩ := hT4
    have hmq := Nat.le_of_ble_eq_true hL2
    split at hk
    · rename_i sts c hm hcs
      simp only [Option.some.injEq] at hk; subst hk
      simp only [kFl] at h3
      split at h3
      · cases h3
      · rename_i t2 hs e1
        split at h3
        · rename_i hch
          split at h3
          · rename_i hn e2
            simp only [Option.some.injEq, Prod.mk.injEq] at h3
            obtain ⟨rfl, rfl⟩ := h3
            obtain ⟨T, H, q1, q2, q3, q4, q5⟩ := runHs_run e1
            have hlen : sts.length = ops.size := by have := go_len hm; simpa using this
            have hrun : Run z P ops call T H := ⟨fun i hi => by
              obtain ⟨st, r1, r2⟩ := go_get hm i (by simpa using hi)
              refine ⟨st, ?_, q5 i st r2⟩
              have : ops.toList[i]'(by simpa using hi) = ops.getD i default := by simp [hi]
              rw [← this]; exact r1⟩
            have hTn : T ops.size = t2 := by rw [← hlen]; exact q3
            have hHn : H ops.size = hn := by have := q4 ops.size (by omega); rw [e2] at this; exact (Option.some.inj this).symm
            refine wp_region_any hT1 (fl_pre hcA hT3 hT2 hmq ?_ ?_ hrun ?_ ops.size (List.range ops.size) (by simp) _ G h _ a a ts 0 [] List.nodup_range ?_ (by simp) ?_ (fun x hx => by cases hx) (fun k q1 q2 q3 => ?_) (fun x hx => by cases hx) (fun x hx => by cases hx) h1 h2.drew hd (Ovr.refl a) ?_ ?_)
            · intro k q1 q2
              have := hL1 (k - lateM ops) (by omega)
              rw [show lateM ops + (k - lateM ops) = k by omega] at this
              exact this
            · intro i j q1 q2 q3 q4
              have := hL3 (j - (lateM ops + lateQ ops)) (by omega) i q1
              simp only [Bool.or_eq_true, Bool.not_eq_true', decide_eq_false_iff_not] at this
              rw [show lateM ops + lateQ ops + (j - (lateM ops + lateQ ops)) = j by omega] at this
              exact this.resolve_left (fun h => h q4)
            · intro j hj hc1 x hx
              obtain ⟨kk, d, r1, r2, r3⟩ := cks_spec hcs j hj hc1 x hx
              obtain ⟨hx2, v, h', s1, s2, s3⟩ := chk_spec hch kk d _ r3 x hx
              have hxle : x ≤ ops.size := by
                unfold spots at hx
                obtain ⟨y, hy, hy2⟩ := List.mem_filterMap.1 hx
                have := List.mem_range.1 hy
                revert hy2
                repeat' split
                all_goals (intro e; first | (simp at e; done) | (simp at e; omega))
              have hxe := q4 x (by omega)
              rw [s1] at hxe
              obtain rfl := Option.some.inj hxe
              exact ⟨kk, d, v, h', r1, r2, by rw [hTn]; exact s2, by rw [hTn]; exact s3⟩
            · intro i
              simp only [List.mem_range]
              constructor
              · intro hi; exact ⟨hi, by simp [hi]⟩
              · intro hi; exact hi.1
            · intro j o ho hl
              have hlt : j < ops.size := (Array.getElem?_eq_some_iff.1 ho).1
              simp [hlt] at hl
            · exfalso
              simp [show k < ops.size by omega] at q3
            · refine ⟨by rw [q1], ?_, ?_, Nat.zero_le _, ?_, q2.symm, ?_⟩
              · intro i t hi hl; simp [show i < ops.size by omega] at hl
              · intro t _; rw [q1]
              · intro i hi _; simp [show i < ops.size by omega]
              · intro i _ hi; simp [hi]
            · intro a' w' s
              rw [hTn, hHn] at s
              exact hQ a' w' s
          · cases h3
        · cases h3
    · cases hk
end Go.Proofs.Ytadohhhjpbhhoaa.EvA
