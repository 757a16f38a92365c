/- Walks of layer 16: variables. -/
import Derived.Test.YtfmhfepcohbbmaaMv
import Derived.Sort.Walk0
namespace Go.Proofs.Ytfmhfepcohbbmaa.EvA
attribute [local irreducible] oMove oPick oBox oBuild oRow oRowZ oLoad oStore oNil oArith oEq oEqS oShr oShl oNot oNeg oConv oFn oMfn oMin oMax oCutstr oCutrow oFaddr oField oIaddr oIaddrA oIdx oExtract oLenS oLenR oLenM oAppend oCall oCallv oMap oLookup oSet oDelete kDo kDo0 kIf kEl oMake oText kEnd kReg kSeq kCond kBlock kLoop kSkip kExit kRet xT xC xF kFl kIp sDo sDo0 sIf gVal
set_option linter.unusedVariables false
set_option linter.unusedSimpArgs false
set_option maxHeartbeats 4000000
variable {fs fs' : List Fact}
def LetB (b : Nat) : Prop := (97 ≤ b ∧ b ≤ 122) ∨ (65 ≤ b ∧ b ≤ 90) ∨ b = 95
def NamB (b : Nat) : Prop := LetB b ∨ (48 ≤ b ∧ b ≤ 57)
theorem letter_ev {b : UInt8} {K : KK} (ht : LetB b.toNat → K (.bool true) fs) (hf : ¬ LetB b.toNat → K (.bool false) fs) : Ev sW ftab 59 [.int .u8 b.toNat] fs K := by
  unfold LetB at ht hf
  refine ev_fn (nt := 21) (kb := kb59) (kr := kr59) rfl rfl (Nat.le_of_ble_eq_true rfl) ?_
  refine cgo ?_
  refine g_do rfl (o_geq (xt rfl) xc (fun h1 => ?_) (fun h1 => ?_))
  · refine cgo ?_
    refine g_do rfl (o_leq (xt rfl) xc (fun h2 => ?_) (fun h2 => ?_))
    · refine cgo ?_
      exact ⟨trivial, _, fs, .one (.tmp rfl), .refl _, ht (by omega)⟩
    · refine cgo ?_
      refine g_do rfl (o_geq (xt rfl) xc (fun h3 => ?_) (fun h3 => by omega))
      refine cgo ?_
      refine g_do rfl (o_leq (xt rfl) xc (fun h4 => by omega) (fun h4 => ?_))
      refine cgo ?_
      refine g_do rfl (o_eqi (xt rfl) xc (fun h5 => by omega) (fun h5 => ?_))
      refine cgo ?_
      exact ⟨trivial, _, fs, .one (.tmp rfl), .refl _, hf (by omega)⟩
  · refine cgo ?_
    refine g_do rfl (o_geq (xt rfl) xc (fun h3 => ?_) (fun h3 => ?_))
    · refine cgo ?_
      refine g_do rfl (o_leq (xt rfl) xc (fun h4 => ?_) (fun h4 => ?_))
      · refine cgo ?_
        exact ⟨trivial, _, fs, .one (.tmp rfl), .refl _, ht (by omega)⟩
      · refine cgo ?_
        refine g_do rfl (o_eqi (xt rfl) xc (fun h5 => ?_) (fun h5 => ?_))
        · refine cgo ?_
          exact ⟨trivial, _, fs, .one (.tmp rfl), .refl _, ht (by omega)⟩
        · refine cgo ?_
          exact ⟨trivial, _, fs, .one (.tmp rfl), .refl _, hf (by omega)⟩
    · refine cgo ?_
      refine g_do rfl (o_eqi (xt rfl) xc (fun h5 => by omega) (fun h5 => ?_))
      refine cgo ?_
      exact ⟨trivial, _, fs, .one (.tmp rfl), .refl _, hf (by omega)⟩
theorem digit2_ev {b : UInt8} {K : KK} (ht : 48 ≤ b.toNat ∧ b.toNat ≤ 57 → K (.bool true) fs) (hf : ¬ (48 ≤ b.toNat ∧ b.toNat ≤ 57) → K (.bool false) fs) : Ev sW ftab 55 [.int .u8 b.toNat] fs K := by
  refine digit_ev rfl ?_
  by_cases h : 48 ≤ b.toNat ∧ b.toNat ≤ 57
  · rw [decide_eq_true h]; exact ht h
  · rw [decide_eq_false h]; exact hf h
/-- A name: a letter, then letters and digits. -/
def NameOk (s : ByteArray) : Prop := ∃ b r, s.data.toList = b :: r ∧ LetB b.toNat ∧ ∀ x ∈ r, NamB x.toNat
theorem name_loop {s : ByteArray} (hs : s.size ≤ 1000000000) {Q : AO → Env → List Fact → Prop} (hQ : ∀ m : Nat, m ≤ s.size → (∀ i b, 1 ≤ i → i < m → s.data.toList[i]? = some b → NamB b.toNat) → (m = s.size ∨ ∃ b, s.data.toList[m]? = some b ∧ ¬ NamB b.toNat) → 1 ≤ m → ∀ e, Sub e [(5, .int .i64 m)] → Q (.exit 0) e fs) :
    ∀ (k n : Nat), n + k = s.size → 1 ≤ n → (∀ i b, 1 ≤ i → i < n → s.data.toList[i]? = some b → NamB b.toNat) → WL sW ftab lb36_0 46 [(0, .str s), (1, .int .i64 0), (5, .int .i64 n)] fs Q
  | 0, n, hn, h1, hp => by
    refine l_round ?_
    refine cgo ?_
    refine g_do rfl (o_add (xt rfl) (xt rfl) (by constructor <;> omega) ?_)
    refine cgo ?_
    refine g_do rfl (o_lss (xt rfl) (xt rfl) (fun h => by omega) (fun h => ?_))
    refine cgo ?_
    exact hQ n (by omega) hp (Or.inl (by omega)) h1 _ (.cons rfl .nil)
  | k + 1, n, hn, h1, hp => by
    have hl : s.data.toList.length = s.size := by simp
    obtain ⟨b, hb⟩ : ∃ b, s.data.toList[n]? = some b := ⟨_, List.getElem?_eq_getElem (show n < s.data.toList.length by omega)⟩
    have hb' : s.data.toList[(0 + (n : Int)).toNat]? = some b := by rw [show (0 + (n : Int)).toNat = n by omega]; exact hb
    have more : NamB b.toNat → ∀ i c, 1 ≤ i → i < n + 1 → s.data.toList[i]? = some c → NamB c.toNat := fun hN i c h2 h3 h4 => by
      by_cases e : i = n
      · subst e; obtain rfl := Option.some.inj (hb.symm.trans h4); exact hN
      · exact hp i c h2 (by omega) h4
    have next : NamB b.toNat → WL sW ftab lb36_0 46 [(0, .str s), (1, .int .i64 0), (5, .int .i64 ((n + 1 : Nat) : Int))] fs Q := fun h => name_loop hs hQ k (n + 1) (by omega) (by omega) (more h)
    refine l_round ?_
    refine cgo ?_
    refine g_do rfl (o_add (xt rfl) (xt rfl) (by constructor <;> omega) ?_)
    refine cgo ?_
    refine g_do rfl (o_lss (xt rfl) (xt rfl) (fun h => ?_) (fun h => by omega))
    refine cgo ?_
    refine g_do rfl (o_add (xt rfl) (xt rfl) (by constructor <;> omega) ?_)
    refine cgo ?_
    refine g_do rfl (o_idx (xt rfl) (xt rfl) (by omega) hb' ?_)
    refine g_if rfl ?_
    refine g_do rfl (o_call (.cons (xt rfl) .nil) (letter_ev (fun hL => ?_) (fun hL => ?_)))
    · refine cgo ?_
      refine w_block ?_
      refine cgo ?_
      refine g_do rfl (o_add (xt rfl) xc (by constructor <;> omega) ?_)
      refine cgo ?_
      refine l_sub (e' := [(0, .str s), (1, .int .i64 0), (5, .int .i64 ((n + 1 : Nat) : Int))]) (.cons rfl (.cons rfl (.cons rfl .nil))) (fun _ h => h) ?_
      exact next (Or.inl hL)
    · refine cgo ?_
      refine g_do rfl (o_add (xt rfl) (xt rfl) (by constructor <;> omega) ?_)
      refine cgo ?_
      refine g_do rfl (o_idx (xt rfl) (xt rfl) (by omega) hb' ?_)
      refine g_if rfl ?_
      refine g_do rfl (o_call (.cons (xt rfl) .nil) (digit2_ev (fun hD => ?_) (fun hD => ?_)))
      · refine cgo ?_
        refine w_block ?_
        refine cgo ?_
        refine g_do rfl (o_add (xt rfl) xc (by constructor <;> omega) ?_)
        refine cgo ?_
        refine l_sub (e' := [(0, .str s), (1, .int .i64 0), (5, .int .i64 ((n + 1 : Nat) : Int))]) (.cons rfl (.cons rfl (.cons rfl .nil))) (fun _ h => h) ?_
        exact next (Or.inr hD)
      · refine cgo ?_
        exact hQ n (by omega) hp (Or.inr ⟨b, hb, fun h => h.elim hL hD⟩) h1 _ (.cons rfl .nil)
theorem namelen_ev {s : ByteArray} (hs : s.size ≤ 1000000000) {K : KK} (h : ∀ m : Nat, ((m = s.size ∧ 0 < m) ↔ NameOk s) → K (.int .i64 m) fs) : Ev sW ftab 36 [.str s, .int .i64 0] fs K := by
  have hl : s.data.toList.length = s.size := by simp
  refine ev_fn (nt := 46) (kb := kb36) (kr := kr36) rfl rfl (Nat.le_of_ble_eq_true rfl) ?_
  refine cgo ?_
  refine g_do rfl (o_lss (xt rfl) xc (fun h => absurd h (by decide)) (fun _ => ?_))
  refine cgo ?_
  refine g_do rfl (o_geq (xt rfl) (xt rfl) (fun h1 => ?_) (fun h1 => ?_))
  · refine cgo ?_
    refine ⟨trivial, _, fs, .one (.tmp rfl), .refl _, h 0 ⟨fun ⟨h2, h3⟩ => by omega, fun ⟨b, r, h2, _⟩ => ?_⟩⟩
    rw [h2] at hl; simp at hl; omega
  · obtain ⟨b, r, hbr⟩ : ∃ b r, s.data.toList = b :: r := by
      cases hh : s.data.toList with
      | nil => rw [hh] at hl; simp at hl; omega
      | cons b r => exact ⟨b, r, rfl⟩
    refine cgo ?_
    refine g_do rfl (o_idx (b := b) (xt rfl) (xt rfl) (by omega) (by rw [hbr]; rfl) ?_)
    refine g_if rfl ?_
    refine g_do rfl (o_call (.cons (xt rfl) .nil) (letter_ev (fun hL => ?_) (fun hL => ?_)))
    · refine cgo ?_
      refine w_block (w_loop ?_)
      refine l_sub (e' := [(0, .str s), (1, .int .i64 0), (5, .int .i64 ((1 : Nat) : Int))]) (.cons rfl (.cons rfl (.cons rfl .nil))) (fun _ h => h) ?_
      refine name_loop hs (fun m hm hp hc hm1 e hS => ?_) (s.size - 1) 1 (by omega) (by omega) (fun i b h2 h3 => by omega)
      refine w_sub hS (fun _ h => h) ?_
      refine cgo ?_
      refine ⟨trivial, _, fs, .one (.tmp rfl), .refl _, h m ⟨fun ⟨h2, h3⟩ => ⟨b, r, hbr, hL, fun x hx => ?_⟩, fun ⟨b', r', h2, h3, h4⟩ => ?_⟩⟩
      · obtain ⟨i, hi⟩ := List.mem_iff_getElem?.1 hx
        have h5 : s.data.toList[i + 1]? = some x := by rw [hbr]; simpa using hi
        have h6 := (List.getElem?_eq_some_iff.1 h5).1
        exact hp (i + 1) x (by omega) (by omega) h5
      · rcases hc with h5 | ⟨c, h5, h6⟩
        · exact ⟨h5, hm1⟩
        · rw [h2] at h5
          obtain ⟨i, rfl⟩ : ∃ i, m = i + 1 := ⟨m - 1, by omega⟩
          rw [List.getElem?_cons_succ] at h5
          exact absurd (h4 c (List.mem_of_getElem? h5)) h6
    · refine cgo ?_
      refine ⟨trivial, _, fs, .one (.tmp rfl), .refl _, h 0 ⟨fun ⟨h2, h3⟩ => by omega, fun ⟨b', r', h2, h3, _⟩ => ?_⟩⟩
      rw [hbr] at h2
      injection h2 with h2 _
      subst h2
      exact absurd h3 hL
theorem name_ev {s : ByteArray} (hs : s.size ≤ 1000000000) {K : KK} (ht : NameOk s → K (.bool true) fs) (hf : ¬ NameOk s → K (.bool false) fs) : Ev sW ftab 16 [.str s] fs K := by
  refine ev_fn (nt := 12) (kb := kb16) (kr := kr16) rfl rfl (Nat.le_of_ble_eq_true rfl) ?_
  refine cgo ?_
  refine g_do rfl (o_nes (xt rfl) xc (fun h1 => ?_) (fun h1 => ?_))
  · refine cgo ?_
    refine ⟨trivial, _, fs, .one (.tmp rfl), .refl _, hf fun ⟨b, r, h2, _⟩ => ?_⟩
    rw [h1] at h2; cases h2
  · refine cgo ?_
    refine g_do rfl (o_call (.cons (xt rfl) (.cons xc .nil)) (namelen_ev hs fun m hm => ?_))
    refine cgo ?_
    refine g_do rfl (o_eqi (xt rfl) (xt rfl) (fun h2 => ?_) (fun h2 => ?_))
    · refine cgo ?_
      have h9 : m = s.size := Int.ofNat.inj h2
      refine ⟨trivial, _, fs, .one (.tmp rfl), .refl _, ht (hm.1 ⟨h9, ?_⟩)⟩
      rcases Nat.eq_zero_or_pos m with h3 | h3
      · refine absurd (ByteArray.ext (Array.ext' ?_)) h1
        have : s.data.toList.length = 0 := by
          have h8 : s.data.toList.length = s.size := by simp
          omega
        exact List.eq_nil_of_length_eq_zero this
      · exact h3
    · refine cgo ?_
      exact ⟨trivial, _, fs, .one (.tmp rfl), .refl _, hf fun hn => h2 (by rw [(hm.2 hn).1])⟩
/-- A map of texts by texts. -/
structure MapV (es : List (AV × AV × Nat)) (c : Nat) (ks : List ByteArray) : Prop where
  ok : MapOk es c ks
  str : ∀ x ∈ es, ∃ s, x.2.1 = .str s
def upE (es : List (AV × AV × Nat)) (c : Nat) (k v : ByteArray) : List (AV × AV × Nat) × Nat := match findA 2 (.str k) es with
  | some (some _) => (setA 2 (.str k) (.str v) es, c)
  | _ => (es ++ [(.str k, .str v, c)], c + 1)
theorem keysOf_len : ∀ {es : List (AV × AV × Nat)} {ks : List ByteArray}, keysOf es = some ks → es.length = ks.length
  | [], ks, h => by simp only [keysOf, Option.some.injEq] at h; subst h; rfl
  | x :: r, ks, h => by
    obtain ⟨t, u, n, ks', rfl, hk, rfl⟩ := keysOf_cons h
    simp only [List.length_cons, keysOf_len hk]
theorem setA_str {k v : ByteArray} : ∀ {es : List (AV × AV × Nat)}, (∀ x ∈ es, ∃ s, x.2.1 = .str s) → ∀ x ∈ setA 2 (.str k) (.str v) es, ∃ s, x.2.1 = .str s
  | [], h, x, hx => by cases hx
  | y :: r, h, x, hx => by
    unfold setA at hx
    split at hx
    · rcases List.mem_cons.1 hx with rfl | hx
      · exact ⟨v, rfl⟩
      · exact h x (List.mem_cons_of_mem _ hx)
    · rcases List.mem_cons.1 hx with rfl | hx
      · exact h _ (List.mem_cons_self ..)
      · exact setA_str (fun z hz => h z (List.mem_cons_of_mem _ hz)) x hx
/-- What a look-up tells. -/
theorem MapV.look {es : List (AV × AV × Nat)} {c : Nat} {ks : List ByteArray} (h : MapV es c ks) (k : ByteArray) : (k ∈ ks ∧ ∃ v, findA 2 (.str k) es = some (some (.str v))) ∨ (k ∉ ks ∧ findA 2 (.str k) es = some none) := by
  by_cases hk : k ∈ ks
  · obtain ⟨v, h1, h2⟩ := find_in h.ok.keys hk
    obtain ⟨x, hx, rfl⟩ := List.mem_map.1 h2
    obtain ⟨s, hs⟩ := h.str x hx
    exact Or.inl ⟨hk, s, by rw [h1, hs]⟩
  · exact Or.inr ⟨hk, find_out h.ok.keys hk⟩
theorem MapV.up {es : List (AV × AV × Nat)} {c : Nat} {ks : List ByteArray} (h : MapV es c ks) {k v : ByteArray} (hs : k.size ≤ 1000000000) (hf : ks.length < 1000000) : ∃ ks', MapV (upE es c k v).1 (upE es c k v).2 ks' ∧ ks'.length ≤ ks.length + 1 ∧ ∀ x ∈ ks', x = k ∨ x ∈ ks := by
  unfold upE
  rcases h.look k with ⟨hk, u, hu⟩ | ⟨hk, hu⟩
  · rw [hu]
    exact ⟨ks, ⟨h.ok.set, setA_str h.str⟩, by omega, fun x hx => Or.inr hx⟩
  · rw [hu]
    refine ⟨ks ++ [k], ⟨h.ok.app hk hs hf, fun x hx => ?_⟩, by simp, fun x hx => ?_⟩
    · rcases List.mem_append.1 hx with hx | hx
      · exact h.str x hx
      · obtain rfl : x = _ := by simpa using hx
        exact ⟨v, rfl⟩
    · rcases List.mem_append.1 hx with hx | hx
      · exact Or.inr hx
      · exact Or.inl (by simpa using hx)
theorem del_keys {k : ByteArray} : ∀ {es : List (AV × AV × Nat)} {ks : List ByteArray}, keysOf es = some ks → ∃ ks', keysOf (delA 2 (.str k) es) = some ks' ∧ ks'.Sublist ks ∧ (delA 2 (.str k) es).Sublist es ∧ (ks.Nodup → k ∉ ks')
  | [], ks, h => by
    simp only [keysOf, Option.some.injEq] at h; subst h
    exact ⟨[], rfl, .refl _, .refl _, fun _ h => by cases h⟩
  | x :: r, ks, h => by
    obtain ⟨t, u, n, ks', rfl, hk, rfl⟩ := keysOf_cons h
    obtain ⟨ks2, h1, h2, h3, h4⟩ := del_keys (k := k) hk
    unfold delA
    rw [eq_str]
    by_cases e : k = t
    · rw [decide_eq_true e]
      subst e
      exact ⟨ks', hk, .cons _ (.refl _), .cons _ (.refl _), fun hn => (List.nodup_cons.1 hn).1⟩
    · rw [decide_eq_false e]
      refine ⟨t :: ks2, by show (keysOf (delA 2 (.str k) r)).map (t :: ·) = _; rw [h1]; rfl, h2.cons_cons _, h3.cons_cons _, fun hn hm => ?_⟩
      rcases List.mem_cons.1 hm with rfl | hm
      · exact e rfl
      · exact h4 (List.nodup_cons.1 hn).2 hm
theorem nodup_ks {ks : List ByteArray} (h : (ks.map fun s => s.data.toList).Nodup) : ks.Nodup := by
  rw [List.nodup_iff_pairwise_ne, List.pairwise_map] at h
  rw [List.nodup_iff_pairwise_ne]
  exact h.imp fun hab e => hab (by rw [e])
theorem MapV.del {es : List (AV × AV × Nat)} {c : Nat} {ks : List ByteArray} (h : MapV es c ks) (k : ByteArray) : ∃ ks', MapV (delA 2 (.str k) es) c ks' ∧ ks'.length ≤ ks.length ∧ (∀ x ∈ ks', x ∈ ks) ∧ k ∉ ks' := by
  obtain ⟨ks', h1, h2, h3, h4⟩ := del_keys (k := k) h.ok.keys
  refine ⟨ks', ⟨⟨h1, Nat.le_trans h2.length_le h.ok.few, fun s hs => h.ok.short s (h2.subset hs), fun x hx => h.ok.born x (h3.subset hx), h.ok.once.sublist (h3.map _), h.ok.apart.sublist (h2.map _)⟩, fun x hx => h.str x (h3.subset hx)⟩, h2.length_le, fun x hx => h2.subset hx, h4 (nodup_ks h.ok.apart)⟩
/-! The calls. -/
theorem unset_ev {e m : Nat} {c : Nat} {v mf : AV} {es : List (AV × AV × Nat)} {ks : List ByteArray} {k : ByteArray} (hs : k.size ≤ 1000000000) (he : Has fs (.blk e (.cells [.map m, v, mf]))) (hm : MapV es c ks) (hp : Put fs (.blk m (.map es c)) (.blk m (.map (delA 2 (.str k) es) c)) fs') {K : KK} (ht : NameOk k → K (.bool true) fs') (hf : ¬ NameOk k → K (.bool false) fs') :
    Ev sW ftab 45 [.ptr e 0, .str k] fs K := by
  refine ev_fn (nt := 12) (kb := kb45) (kr := kr45) rfl rfl (Nat.le_of_ble_eq_true rfl) ?_
  refine cgo ?_
  refine g_do rfl (o_load (xt rfl) he rfl ?_)
  refine cgo ?_
  obtain ⟨r, hr⟩ : ∃ r, findA 2 (.str k) es = some r := by
    rcases hm.look k with ⟨_, u, hu⟩ | ⟨_, hu⟩
    · exact ⟨_, hu⟩
    · exact ⟨_, hu⟩
  refine g_do0 (o_del (xt rfl) (xt rfl) rfl hr hp ?_)
  refine cgo ?_
  refine g_do rfl (o_call (.cons (xt rfl) .nil) (name_ev hs (fun h => ?_) (fun h => ?_)))
  · refine cgo ?_
    exact ⟨trivial, _, _, .one (.tmp rfl), .refl _, ht h⟩
  · refine cgo ?_
    exact ⟨trivial, _, _, .one (.tmp rfl), .refl _, hf h⟩
theorem set_ev {e m : Nat} {c : Nat} {v mf : AV} {es : List (AV × AV × Nat)} {ks : List ByteArray} {k x : ByteArray} (hk : NameOk k) (hs : k.size ≤ 1000000000) (hx : Fits x) (hl : ks.length < 100) (he : Has fs (.blk e (.cells [.map m, v, mf]))) (hm : MapV es c ks) {K : KK} (h : K (.int .i64 0) (.blk m (.map (upE es c k x).1 (upE es c k x).2) :: fs)) :
    Ev sW ftab 44 [.ptr e 0, .str k, .str x] (.blk m (.map es c) :: fs) K := by
  have hlen := keysOf_len hm.ok.keys
  refine ev_fn (nt := 42) (kb := kb44) (kr := kr44) rfl rfl (Nat.le_of_ble_eq_true rfl) ?_
  refine cgo ?_
  refine g_do rfl (o_load (xt rfl) (.there he) rfl ?_)
  refine cgo ?_
  unfold upE at h
  rcases hm.look k with ⟨_, u, hu⟩ | ⟨hk2, hu⟩
  · rw [hu] at h
    refine g_do rfl (o_lookup (xt rfl) (xt rfl) .here rfl hu ?_)
    refine cgo ?_
    refine w_block ?_
    refine cgo ?_
    refine g_do rfl (o_call (.cons (xt rfl) .nil) (name_ev hs (fun _ => ?_) (fun h => absurd hk h)))
    refine cgo ?_
    refine g_do rfl (o_call (.cons (xt rfl) .nil) (fits_ev hx.1 hx.2 ?_))
    refine cgo ?_
    refine g_do rfl (o_load (xt rfl) (.there he) rfl ?_)
    refine cgo ?_
    refine g_do0 (o_set (xt rfl) (xt rfl) (xt rfl) rfl hu .here ?_)
    refine cgo ?_
    exact ⟨trivial, _, _, .one (.tmp rfl), .refl _, h⟩
  · rw [hu] at h
    refine g_do rfl (o_lookup (xt rfl) (xt rfl) .here rfl hu ?_)
    refine cgo ?_
    refine w_block ?_
    refine cgo ?_
    refine g_do rfl (o_call (.cons (xt rfl) .nil) (name_ev hs (fun _ => ?_) (fun h => absurd hk h)))
    refine cgo ?_
    refine g_do rfl (o_call (.cons (xt rfl) .nil) (fits_ev hx.1 hx.2 ?_))
    refine cgo ?_
    refine g_do rfl (o_load (xt rfl) (.there he) rfl ?_)
    refine g_if rfl ?_
    refine g_do rfl (o_lenm (xt rfl) .here ?_)
    refine cgo ?_
    refine g_do rfl (o_geq (xt rfl) xc (fun h => by omega) (fun _ => ?_))
    refine cgo ?_
    refine g_do rfl (o_load (xt rfl) (.there he) rfl ?_)
    refine cgo ?_
    refine g_do0 (o_setn (xt rfl) (xt rfl) (xt rfl) rfl hu .here ?_)
    refine cgo ?_
    exact ⟨trivial, _, _, .one (.tmp rfl), .refl _, h⟩
theorem getv_ev {e m : Nat} {c n : Nat} {v mf : AV} {es : List (AV × AV × Nat)} {k : ByteArray} {r : Option AV} (hn : numM k = (n, false)) (hs : k.size ≤ 1000000000) (he : Has fs (.blk e (.cells [.map m, v, mf]))) (hm : Has fs (.blk m (.map es c))) (hr : findA 2 (.str k) es = some r) {K : KK} (h : K (.tup [r.getD (.str ⟨#[]⟩), .bool r.isSome]) fs) :
    Ev sW ftab 14 [.ptr e 0, .str k] fs K := by
  refine ev_fn (nt := 46) (kb := kb14) (kr := kr14) rfl rfl (Nat.le_of_ble_eq_true rfl) ?_
  refine cgo ?_
  refine g_do rfl (o_call (.cons (xt rfl) .nil) (number_ev rfl rfl hs ?_))
  rw [hn]
  refine cgo ?_
  refine g_do rfl (o_load (xt rfl) he rfl ?_)
  refine cgo ?_
  refine g_do rfl (o_lookup (xt rfl) (xt rfl) hm rfl hr ?_)
  refine cgo ?_
  exact ⟨trivial, _, fs, .tup (.cons (.tmp rfl) (.cons (.tmp rfl) .nil)), .refl _, h⟩
abbrev ifsT : ByteArray := ⟨#[73, 70, 83]⟩
abbrev blanksT : ByteArray := ⟨#[32, 9, 10]⟩
theorem ifs_ev {e m : Nat} {c : Nat} {v mf : AV} {es : List (AV × AV × Nat)} (he : Has fs (.blk e (.cells [.map m, v, mf]))) (hm : Has fs (.blk m (.map es c))) (hr : findA 2 (.str ifsT) es = some none) {K : KK} (h : K (.str blanksT) fs) :
    Ev sW ftab 50 [.ptr e 0] fs K := by
  refine ev_fn (nt := 16) (kb := kb50) (kr := kr50) rfl rfl (Nat.le_of_ble_eq_true rfl) ?_
  refine cgo ?_
  refine g_do rfl (o_load (xt rfl) he rfl ?_)
  refine cgo ?_
  refine g_do rfl (o_lookup (xt rfl) xc hm rfl hr ?_)
  refine cgo ?_
  exact ⟨trivial, _, fs, .one (.tmp rfl), .refl _, h⟩
/-! All variables, rising. -/
abbrev bl (s : ByteArray) : List UInt8 := s.data.toList
def namesS (ks : List ByteArray) : List ByteArray := (sortK ks).map fun l => ⟨l.toArray⟩
theorem names_perm (ks : List ByteArray) : (namesS ks).Perm ks := by
  unfold namesS sortK
  have h1 := (List.mergeSort_perm (ks.map fun s => s.data.toList) (fun x y => decide (x ≤ y))).map fun l : List UInt8 => (⟨l.toArray⟩ : ByteArray)
  rw [List.map_map] at h1
  have h2 : ks.map ((fun l : List UInt8 => (⟨l.toArray⟩ : ByteArray)) ∘ fun s => s.data.toList) = ks := by
    conv => rhs; rw [← List.map_id ks]
    apply List.map_congr_left
    intro s _
    rfl
  rw [h2] at h1
  exact h1
theorem names_up {ks : List ByteArray} (h : (ks.map fun s => s.data.toList).Nodup) : (namesS ks).Pairwise fun a b => bl a < bl b := by
  have h1 : (sortK ks).Pairwise fun x y => decide (x ≤ y) = true := List.pairwise_mergeSort (fun a b c h1 h2 => by simp only [decide_eq_true_eq] at *; exact List.le_trans h1 h2) (fun a b => by simp only [Bool.or_eq_true, decide_eq_true_eq]; exact List.le_total a b) _
  have h2 : (sortK ks).Nodup := (List.mergeSort_perm _ _).nodup_iff.2 h
  unfold namesS
  rw [List.pairwise_map]
  rw [List.nodup_iff_pairwise_ne] at h2
  refine (h1.and h2).imp fun ⟨h3, h4⟩ => ?_
  have h3 := of_decide_eq_true h3
  refine Decidable.byContradiction fun hlt => h4 ?_
  exact List.le_antisymm h3 (List.not_lt.1 hlt)
theorem rowK_rv (ks : List ByteArray) : RV fs 1 (rowK ks) ((namesS ks).map .str) (namesS ks).length := by
  have hl : (namesS ks).length = ks.length := (names_perm ks).length_eq
  cases ks with
  | nil =>
    have : namesS [] = [] := List.eq_nil_of_length_eq_zero hl
    rw [this]; exact .nil
  | cons k ks =>
    show RV fs 1 (.row ((sortK (k :: ks)).map fun l => AV.str ⟨l.toArray⟩) (k :: ks).length ⟨0, 0, 0, 1⟩) _ _
    rw [hl]
    have : (namesS (k :: ks)).map AV.str = (sortK (k :: ks)).map fun l => AV.str ⟨l.toArray⟩ := by unfold namesS; rw [List.map_map]; rfl
    rw [this]
    exact .row (.frz rfl) rfl
variable {fs fs' : List Fact} {S : Sum} {F : FuncId → Option AF} {e : Env}
theorem Put.same {x y : Fact} (h : Put fs x y fs') (hxy : x = y) : fs' = fs := by
  induction h with
  | here => rw [hxy]
  | there _ ih => rw [ih hxy]
theorem Has.put {x : Fact} (y : Fact) (h : Has fs x) : ∃ fs', Put fs x y fs' := by
  induction h with
  | here => exact ⟨_, .here⟩
  | there _ ih => obtain ⟨r, hr⟩ := ih; exact ⟨_, .there hr⟩
theorem Put.hasNew {x y : Fact} (h : Put fs x y fs') : Has fs' y := by
  induction h with
  | here => exact .here
  | there _ ih => exact .there ih
theorem Has.app {a b : List Fact} {x : Fact} (h : Has b x) : Has (a ++ b) x := by
  induction a with
  | nil => exact h
  | cons y a ih => exact .there ih
def cells2 {α : Type} (f g : α → AV) (l : List α) : List AV := l.flatMap fun x => [f x, g x]
theorem cells2_get {α : Type} (f g : α → AV) : ∀ (l : List α) (i : Nat) (x : α), l[i]? = some x → (cells2 f g l)[i * 2]? = some (f x) ∧ (cells2 f g l)[i * 2 + 1]? = some (g x)
  | [], i, x, h => by simp at h
  | y :: l, 0, x, h => by simp at h; subst h; exact ⟨rfl, rfl⟩
  | y :: l, i + 1, x, h => by
    obtain ⟨h1, h2⟩ := cells2_get f g l i x (by simpa using h)
    have e : cells2 f g (y :: l) = f y :: g y :: cells2 f g l := rfl
    rw [e, show (i + 1) * 2 = i * 2 + 1 + 1 by omega, List.getElem?_cons_succ, List.getElem?_cons_succ, List.getElem?_cons_succ, List.getElem?_cons_succ]
    exact ⟨h1, h2⟩
abbrev CP (P : List (ByteArray × ByteArray)) : List AV := cells2 (fun p => .str p.1) (fun p => .str p.2) P
def valS (es : List (AV × AV × Nat)) (k : ByteArray) : ByteArray := match findA 2 (.str k) es with
  | some (some (.str v)) => v
  | _ => ⟨#[]⟩
def varsP (es : List (AV × AV × Nat)) (ks : List ByteArray) : List (ByteArray × ByteArray) := (namesS ks).map fun k => (k, valS es k)
theorem CP_snoc (P : List (ByteArray × ByteArray)) (p : ByteArray × ByteArray) : CP (P ++ [p]) = CP P ++ [.str p.1, .str p.2] := by
  simp [CP, cells2]
theorem vars_loop {en m c : Nat} {v mf : AV} {es : List (AV × AV × Nat)} {ks : List ByteArray} (he : Has fs (.blk en (.cells [.map m, v, mf]))) (hm : Has fs (.blk m (.map es c))) (hM : MapV es c ks) {Q : AO → Env → List Fact → Prop}
    (hQ : ∀ e out fsA, AR 2 out (CP (varsP es ks)) (varsP es ks).length fsA → Sub e [(3, out)] → Q (.exit 0) e (fsA ++ fs)) :
    ∀ (k n : Nat) (out : AV) (fsA : List Fact), n + k = (namesS ks).length → AR 2 out (CP ((varsP es ks).take n)) n fsA →
    WL sW ftab lb15_0 30 [(0, .ptr en 0), (3, out), (11, rowK ks), (12, .int .i64 (namesS ks).length), (13, .int .i64 n)] (fsA ++ fs) Q
  | 0, n, out, fsA, hn, hA => by
    refine l_round ?_
    refine cgo ?_
    refine g_do rfl (o_lss (xt rfl) (xt rfl) (fun h => by omega) (fun h => ?_))
    refine cgo ?_
    have hl : (varsP es ks).length = (namesS ks).length := by simp [varsP]
    rw [List.take_of_length_le (by omega)] at hA
    have : n = (varsP es ks).length := by omega
    subst this
    exact hQ _ _ _ hA (.cons rfl .nil)
  | k + 1, n, out, fsA, hn, hA => by
    have hlt : n < (namesS ks).length := by omega
    obtain ⟨kn, hkn⟩ : ∃ kn, (namesS ks)[n]? = some kn := ⟨_, List.getElem?_eq_getElem hlt⟩
    have hks : kn ∈ ks := (names_perm ks).mem_iff.1 (List.mem_of_getElem? hkn)
    have hlen : (namesS ks).length ≤ 1000000 := by rw [(names_perm ks).length_eq]; exact hM.ok.few
    obtain ⟨w, hw⟩ : ∃ w, findA 2 (.str kn) es = some (some (.str w)) := by
      rcases hM.look kn with ⟨_, w, hw⟩ | ⟨h1, _⟩
      · exact ⟨w, hw⟩
      · exact absurd hks h1
    have hP : (varsP es ks)[n]? = some (kn, w) := by
      unfold varsP
      rw [List.getElem?_map, hkn]
      show some (kn, valS es kn) = _
      unfold valS; rw [hw]
    have hPt : (varsP es ks).take (n + 1) = (varsP es ks).take n ++ [(kn, w)] := by rw [List.take_add_one, hP]; rfl
    obtain ⟨sr, hrow, hrd, hz⟩ := (rowK_rv (fs := []) ks).some (by omega)
    have hfr : sr.fam = 0 := by
      cases hrd with
      | frz h => exact h
      | own h => cases h
    rw [hrow]
    refine l_round ?_
    refine cgo ?_
    refine g_do rfl (o_lss (xt rfl) (xt rfl) (fun h => ?_) (fun h => by omega))
    refine cgo ?_
    refine w_block ?_
    refine cgo ?_
    refine g_do rfl (o_iaddr (xt rfl) (xt rfl) ⟨by omega, by omega⟩ hz ?_)
    refine g_do rfl (o_loadr (v := .str kn) (xt rfl) (.frz hfr) ?_ ?_)
    · simp only [apart]
      rw [show ((n : Nat) : Int).toNat * 1 = n by omega, List.getElem?_map, hkn]; rfl
    refine cgo ?_
    refine g_do rfl (o_load (xt rfl) he.app rfl ?_)
    refine cgo ?_
    refine g_do rfl (o_lookup (xt rfl) (xt rfl) hm.app rfl hw ?_)
    refine cgo ?_
    refine g_do rfl (o_row (cs := [.str kn, .str w]) (.cons (xt rfl) .nil) rfl rfl fun f0 id0 => ?_)
    have fin : ∀ out' fsB fs2 e2, AR 2 out' (CP ((varsP es ks).take (n + 1))) (n + 1) fsB → (∀ h, RH h fs2 → RH h (fsB ++ fs)) → Sub e2 [(0, .ptr en 0), (27, out'), (11, .row ((namesS ks).map .str) (namesS ks).length sr), (12, .int .i64 (namesS ks).length), (13, .int .i64 n)] →
        WG sW ftab (kDo 3 (oMove (xT 27)) kEnd) 30 e2 fs2 fun e' fs' => WC sW ftab (kReg (kDo 28 (oArith .add (xT 13) (xC (AV.int .i64 1))) (kDo 13 (oMove (xT 28)) kEnd))) 30 e' fs' fun ao e' fs' => match ao with | .normal => WL sW ftab lb15_0 30 e' fs' Q | o => Q o e' fs' := by
      intro out' fsB fs2 e2 hB hR hS
      refine g_sub hS hR ?_
      refine cgo ?_
      refine g_do rfl (o_add (xt rfl) xc (by constructor <;> omega) ?_)
      refine cgo ?_
      refine l_sub (e' := [(0, .ptr en 0), (3, out'), (11, rowK ks), (12, .int .i64 (namesS ks).length), (13, .int .i64 ((n + 1 : Nat) : Int))]) (by rw [hrow]; exact .cons rfl (.cons rfl (.cons rfl (.cons rfl (.cons rfl .nil))))) (fun _ h => h) ?_
      exact vars_loop he hm hM hQ k (n + 1) out' fsB (by omega) hB
    rcases hA.inv with ⟨rfl, h0, h1, rfl⟩ | ⟨f, id, h1, rfl, rfl⟩
    · subst h1
      refine g_do rfl (o_appn (xt rfl) (XR.own (s := ⟨f0, id0, 0, 2⟩) (xt rfl) .here rfl) rfl (by decide) ⟨by decide, by decide⟩ fun f1 id1 => ?_)
      refine fin _ [.row f1 id1 (1 * 2)] _ _ (by rw [hPt, CP_snoc, h0]; exact .own (by decide)) (fun _ hh => hh.mono (.cons_cons _ (.cons _ (.refl _)))) ?_
      exact .cons rfl (.cons rfl (.cons rfl (.cons rfl (.cons rfl .nil))))
    · refine g_do rfl (o_appo (m := n * 2) (fs' := fun id' => .row f0 id0 (1 * 2) :: .row f id' (0 + n * 2 + 1 * 2) :: fs) (xt rfl) (XR.own (s := ⟨f0, id0, 0, 2⟩) (xt rfl) .here rfl) rfl (by decide) ⟨by omega, by omega⟩ rfl (fun _ => .there .here) fun id1 => ?_)
      refine fin _ [.row f id1 ((n + 1) * 2)] _ _ (by rw [hPt, CP_snoc]; exact .own (by omega)) (fun _ hh => ?_) ?_
      · have := hh.mono (.cons _ (.refl _))
        rw [show (n + 1) * 2 = 0 + n * 2 + 1 * 2 by omega]; exact this
      · exact .cons rfl (.cons rfl (.cons rfl (.cons rfl (.cons rfl .nil))))
theorem vars_ev {en m c : Nat} {v mf : AV} {es : List (AV × AV × Nat)} {ks : List ByteArray} (he : Has fs (.blk en (.cells [.map m, v, mf]))) (hm : Has fs (.blk m (.map es c))) (hM : MapV es c ks) {K : KK} (h : ∀ out fsA, AR 2 out (CP (varsP es ks)) (varsP es ks).length fsA → K out (fsA ++ fs)) :
    Ev sW ftab 15 [.ptr en 0] fs K := by
  refine ev_fn (nt := 30) (kb := kb15) (kr := kr15) rfl rfl (Nat.le_of_ble_eq_true rfl) ?_
  refine cgo ?_
  refine g_do rfl (o_load (xt rfl) he rfl ?_)
  refine g_do rfl (o_call (.cons (xt rfl) .nil) (ev_fn (nt := 4) (kb := kb35) (kr := kr35) rfl rfl (Nat.le_of_ble_eq_true rfl) ?_))
  refine w_rs (g_do rfl (o_box (xt rfl) rfl fun b => ?_))
  refine cgo ?_
  refine g_do rfl (o_fn (.cons (xt rfl) .nil) ?_)
  refine cgo ?_
  refine ⟨trivial, _, _, .one (.tmp rfl), .refl _, ?_⟩
  refine g_do rfl (o_call (.cons (xt rfl) .nil) (sorted_ev rfl .here (.there hm) hM.ok ?_))
  refine g_do rfl (o_len (xt rfl) (rowK_rv ks) ?_)
  refine cgo ?_
  refine w_block (w_loop ?_)
  refine l_sub (fs' := [] ++ fs) (e' := [(0, .ptr en 0), (3, .nilrow), (11, rowK ks), (12, .int .i64 (namesS ks).length), (13, .int .i64 ((0 : Nat) : Int))]) (.cons rfl (.cons rfl (.cons rfl (.cons rfl (.cons rfl .nil))))) (fun _ hh => hh.mono (.cons _ (.refl _))) ?_
  refine vars_loop he hm hM (fun e out fsA hA hS => ?_) (namesS ks).length 0 .nilrow [] (by omega) .nil
  refine w_sub hS (fun _ h => h) ?_
  refine cgo ?_
  exact ⟨trivial, _, _, .one (.tmp rfl), .refl _, h out fsA hA⟩
theorem new0_ev {K : KK} (h : ∀ e m f, K (.ptr e 0) (.blk e (.cells [.map m, .nilrow, .map f]) :: .blk f (.map [] 0) :: .blk m (.map [(.str ifsT, .str blanksT, 0)] 1) :: fs)) : Ev sW ftab 7 [.nilrow, .nilrow] fs K := by
  refine ev_fn (nt := 68) (kb := kb7) (kr := kr7) rfl rfl (Nat.le_of_ble_eq_true rfl) ?_
  refine cgo ?_
  refine g_do rfl (o_map fun m => ?_)
  refine g_do0 (o_setn (xt rfl) xc xc rfl rfl .here ?_)
  refine rgo ?_
  refine g_do rfl (o_map fun f => ?_)
  refine g_do rfl (o_build (.cons (xt rfl) (.cons (xt rfl) .nil)) rfl ?_)
  refine g_do rfl (o_box (v := .agg [.map m, .nilrow, .map f]) (xt rfl) rfl fun e => ?_)
  refine cgo ?_
  refine w_block (w_loop (l_round ?_))
  refine cgo ?_
  refine g_do rfl (o_lss (xt rfl) (xt rfl) (fun h1 => by omega) (fun h1 => ?_))
  refine cgo ?_
  refine g_do rfl (o_call (.cons (xt rfl) (.cons (xt rfl) .nil)) (setargs_ev (T := []) rfl rfl .nil (fun s h => by cases h) fun v fsA hA => ?_))
  rcases hA.inv with ⟨rfl, _, _, rfl⟩ | ⟨f, id, h1, _, _⟩
  · refine cgo ?_
    exact ⟨trivial, _, _, .one (.tmp rfl), .refl _, h e m f⟩
  · exact absurd rfl h1
abbrev PV := ByteArray × ByteArray
def UpV (D : List PV) : Prop := D.Pairwise fun a b => bl a.1 < bl b.1
def getD2 : List PV → ByteArray → Option ByteArray
  | [], _ => none
  | p :: D, n => if p.1 = n then some p.2 else getD2 D n
theorem bl_inj {a b : ByteArray} (h : bl a = bl b) : a = b := by
  apply ByteArray.ext; apply Array.ext'; exact h
theorem bl_ne {a b : ByteArray} (h : bl a < bl b) : a ≠ b := fun e => by subst e; exact List.lt_irrefl _ h
theorem bl_tri (a b : ByteArray) : bl a < bl b ∨ a = b ∨ bl b < bl a := by
  by_cases h1 : bl a < bl b
  · exact Or.inl h1
  · by_cases h2 : bl b < bl a
    · exact Or.inr (Or.inr h2)
    · exact Or.inr (Or.inl (bl_inj (List.le_antisymm (List.not_lt.1 h2) (List.not_lt.1 h1))))
theorem getD2_out : ∀ {D : List PV} {n : ByteArray}, (∀ p ∈ D, p.1 ≠ n) → getD2 D n = none
  | [], n, h => rfl
  | p :: D, n, h => by
    simp only [getD2]
    rw [if_neg (h p (List.mem_cons_self ..))]
    exact getD2_out fun q hq => h q (List.mem_cons_of_mem _ hq)
theorem getD2_mem : ∀ {D : List PV} {n v : ByteArray}, getD2 D n = some v → (n, v) ∈ D
  | [], n, v, h => by cases h
  | p :: D, n, v, h => by
    simp only [getD2] at h
    split at h
    · rename_i e
      obtain rfl := Option.some.inj h
      rw [← e]; exact List.mem_cons_self ..
    · exact List.mem_cons_of_mem _ (getD2_mem h)
theorem up_ext : ∀ {D E : List PV}, UpV D → UpV E → (∀ n, getD2 D n = getD2 E n) → D = E
  | [], [], _, _, _ => rfl
  | [], q :: E, _, _, h => by have := h q.1; simp [getD2] at this
  | p :: D, [], _, _, h => by have := h p.1; simp [getD2] at this
  | p :: D, q :: E, hD, hE, h => by
    obtain ⟨hD1, hD2⟩ := List.pairwise_cons.1 hD
    obtain ⟨hE1, hE2⟩ := List.pairwise_cons.1 hE
    have hpq : p.1 = q.1 := by
      rcases bl_tri p.1 q.1 with h1 | h1 | h1
      · have h2 := h p.1
        have h3 : getD2 (q :: E) p.1 = none := getD2_out fun x hx => by
          rcases List.mem_cons.1 hx with rfl | hx
          · exact (bl_ne h1).symm
          · exact (bl_ne (List.lt_trans h1 (hE1 x hx))).symm
        rw [h3] at h2; simp [getD2] at h2
      · exact h1
      · have h2 := h q.1
        have h3 : getD2 (p :: D) q.1 = none := getD2_out fun x hx => by
          rcases List.mem_cons.1 hx with rfl | hx
          · exact (bl_ne h1).symm
          · exact (bl_ne (List.lt_trans h1 (hD1 x hx))).symm
        rw [h3] at h2; simp [getD2] at h2
    have hv : p.2 = q.2 := by
      have h2 := h p.1
      simp only [getD2, if_true, hpq.symm] at h2
      exact Option.some.inj h2
    have ht : D = E := by
      refine up_ext hD2 hE2 fun n => ?_
      by_cases hn : p.1 = n
      · rw [getD2_out fun x hx => ?_, getD2_out fun x hx => ?_]
        · rw [← hn, hpq]; exact (bl_ne (hE1 x hx)).symm
        · rw [← hn]; exact (bl_ne (hD1 x hx)).symm
      · have h2 := h n
        simp only [getD2, if_neg hn] at h2
        rw [if_neg (by rw [← hpq]; exact hn)] at h2
        exact h2
    rw [ht]
    have : p = q := Prod.ext hpq hv
    rw [this]
/-- A pair is put in, where it belongs. -/
def insD : List PV → ByteArray → ByteArray → List PV
  | [], n, v => [(n, v)]
  | p :: D, n, v => if bl p.1 < bl n then p :: insD D n v else if p.1 = n then (n, v) :: D else (n, v) :: p :: D
def remD : List PV → ByteArray → List PV
  | [], _ => []
  | p :: D, n => if p.1 = n then D else p :: remD D n
theorem ins_mem : ∀ {D : List PV} {n v : ByteArray} {x : PV}, x ∈ insD D n v → x = (n, v) ∨ x ∈ D
  | [], n, v, x, h => Or.inl (by simpa [insD] using h)
  | p :: D, n, v, x, h => by
    simp only [insD] at h
    split at h
    · rcases List.mem_cons.1 h with h | h
      · exact Or.inr (h ▸ List.mem_cons_self ..)
      · rcases ins_mem h with h | h
        · exact Or.inl h
        · exact Or.inr (List.mem_cons_of_mem _ h)
    · split at h
      · rcases List.mem_cons.1 h with h | h
        · exact Or.inl h
        · exact Or.inr (List.mem_cons_of_mem _ h)
      · rcases List.mem_cons.1 h with h | h
        · exact Or.inl h
        · exact Or.inr h
theorem ins_up : ∀ {D : List PV} {n v : ByteArray}, UpV D → UpV (insD D n v)
  | [], n, v, h => List.pairwise_singleton ..
  | p :: D, n, v, h => by
    obtain ⟨h1, h2⟩ := List.pairwise_cons.1 h
    simp only [insD]
    split
    · rename_i hlt
      refine List.pairwise_cons.2 ⟨fun x hx => ?_, ins_up h2⟩
      rcases ins_mem hx with rfl | hx
      · exact hlt
      · exact h1 x hx
    · rename_i hlt
      split
      · rename_i e
        exact List.pairwise_cons.2 ⟨fun x hx => by rw [← e]; exact h1 x hx, h2⟩
      · rename_i e
        have hgt : bl n < bl p.1 := by
          rcases bl_tri p.1 n with h | h | h
          · exact absurd h hlt
          · exact absurd h e
          · exact h
        refine List.pairwise_cons.2 ⟨fun x hx => ?_, h⟩
        rcases List.mem_cons.1 hx with rfl | hx
        · exact hgt
        · exact List.lt_trans hgt (h1 x hx)
theorem ins_get : ∀ {D : List PV} {n v m : ByteArray}, getD2 (insD D n v) m = if m = n then some v else getD2 D m
  | [], n, v, m => by
    simp only [insD, getD2]
    by_cases h : m = n
    · rw [if_pos h, if_pos h.symm]
    · rw [if_neg h, if_neg (fun e => h e.symm)]
  | p :: D, n, v, m => by
    simp only [insD]
    split
    · rename_i hlt
      simp only [getD2, ins_get]
      by_cases h1 : p.1 = m
      · rw [if_pos h1, if_neg (by rw [← h1]; exact bl_ne hlt), if_pos h1]
      · rw [if_neg h1, if_neg h1]
    · split
      · rename_i e
        simp only [getD2]
        by_cases h : m = n
        · rw [if_pos h, if_pos h.symm]
        · rw [if_neg h, if_neg (fun e => h e.symm), if_neg (by rw [e]; exact fun e => h e.symm)]
      · simp only [getD2]
        by_cases h : m = n
        · rw [if_pos h, if_pos h.symm]
        · rw [if_neg h, if_neg (fun e => h e.symm)]
theorem rem_sub : ∀ {D : List PV} {n : ByteArray}, (remD D n).Sublist D
  | [], n => .refl _
  | p :: D, n => by
    simp only [remD]
    split
    · exact .cons _ (.refl _)
    · exact .cons_cons _ rem_sub
theorem rem_get : ∀ {D : List PV} {n m : ByteArray}, UpV D → getD2 (remD D n) m = if m = n then none else getD2 D m
  | [], n, m, h => by simp [remD, getD2]
  | p :: D, n, m, h => by
    obtain ⟨h1, h2⟩ := List.pairwise_cons.1 h
    simp only [remD]
    split
    · rename_i e
      by_cases hm : m = n
      · rw [if_pos hm]
        exact getD2_out fun x hx => by rw [hm, ← e]; exact (bl_ne (h1 x hx)).symm
      · rw [if_neg hm]
        simp only [getD2]
        rw [if_neg (by rw [e]; exact fun e => hm e.symm)]
    · rename_i e
      simp only [getD2, rem_get h2]
      by_cases h3 : p.1 = m
      · rw [if_pos h3, if_neg (by rw [← h3]; exact e), if_pos h3]
      · rw [if_neg h3, if_neg h3]
theorem ins_split : ∀ {A B : List PV} {n v : ByteArray}, (∀ p ∈ A, bl p.1 < bl n) → insD (A ++ B) n v = A ++ insD B n v
  | [], B, n, v, h => rfl
  | p :: A, B, n, v, h => by
    show insD (p :: (A ++ B)) n v = _
    simp only [insD]
    rw [if_pos (h p (List.mem_cons_self ..)), ins_split fun q hq => h q (List.mem_cons_of_mem _ hq)]; rfl
theorem rem_split : ∀ {A B : List PV} {n : ByteArray}, (∀ p ∈ A, bl p.1 < bl n) → remD (A ++ B) n = A ++ remD B n
  | [], B, n, h => rfl
  | p :: A, B, n, h => by
    show remD (p :: (A ++ B)) n = _
    simp only [remD]
    rw [if_neg (bl_ne (h p (List.mem_cons_self ..))), rem_split fun q hq => h q (List.mem_cons_of_mem _ hq)]; rfl
/-! The map's side. -/
def lookE (es : List (AV × AV × Nat)) (n : ByteArray) : Option ByteArray := match findA 2 (.str n) es with
  | some (some (.str v)) => some v
  | _ => none
theorem vars_up {es : List (AV × AV × Nat)} {c : Nat} {ks : List ByteArray} (h : MapV es c ks) : UpV (varsP es ks) := by
  unfold UpV varsP
  rw [List.pairwise_map]
  exact names_up h.ok.apart
theorem getD2_map (es : List (AV × AV × Nat)) (n : ByteArray) : ∀ l : List ByteArray, (n ∈ l → getD2 (l.map fun k => (k, valS es k)) n = some (valS es n)) ∧ (n ∉ l → getD2 (l.map fun k => (k, valS es k)) n = none)
  | [] => ⟨fun h => (by cases h), fun _ => rfl⟩
  | k :: l => by
    obtain ⟨h1, h2⟩ := getD2_map es n l
    simp only [List.map_cons, getD2]
    by_cases h : k = n
    · subst h
      rw [if_pos rfl]
      exact ⟨fun _ => rfl, fun hn => absurd (List.mem_cons_self ..) hn⟩
    · rw [if_neg h]
      refine ⟨fun hm => h1 ?_, fun hm => h2 fun e => hm (List.mem_cons_of_mem _ e)⟩
      rcases List.mem_cons.1 hm with e | e
      · exact absurd e.symm h
      · exact e
theorem vars_get {es : List (AV × AV × Nat)} {c : Nat} {ks : List ByteArray} (h : MapV es c ks) (n : ByteArray) : getD2 (varsP es ks) n = lookE es n := by
  obtain ⟨g1, g2⟩ := getD2_map es n (namesS ks)
  unfold varsP lookE
  rcases h.look n with ⟨hk, v, hv⟩ | ⟨hk, hv⟩
  · rw [g1 ((names_perm ks).mem_iff.2 hk), hv]
    unfold valS; rw [hv]
  · rw [g2 fun hm => hk ((names_perm ks).mem_iff.1 hm), hv]
theorem find_set {k n : ByteArray} {v : AV} : ∀ {es : List (AV × AV × Nat)} {ks : List ByteArray}, keysOf es = some ks → k ∈ ks → findA 2 (.str n) (setA 2 (.str k) v es) = if n = k then some (some v) else findA 2 (.str n) es
  | [], ks, h, hk => by
    simp only [keysOf, Option.some.injEq] at h; subst h; cases hk
  | x :: r, ks, h, hk => by
    obtain ⟨t, u, m, ks', rfl, hk', rfl⟩ := keysOf_cons h
    unfold setA
    rw [eq_str]
    by_cases e : k = t
    · subst e
      rw [decide_eq_true rfl, if_pos rfl]
      unfold findA
      rw [eq_str]
      by_cases hn : n = k
      · rw [decide_eq_true hn, if_pos hn]
      · rw [decide_eq_false hn, if_neg hn]
    · rw [decide_eq_false e, if_neg (by simp)]
      have hk2 : k ∈ ks' := by
        rcases List.mem_cons.1 hk with h1 | h1
        · exact absurd h1 e
        · exact h1
      unfold findA
      rw [eq_str]
      by_cases hn : n = t
      · rw [decide_eq_true hn, if_neg (by rw [hn]; exact fun h => e h.symm)]
      · rw [decide_eq_false hn]
        exact find_set hk' hk2
theorem find_app {k n : ByteArray} {v : AV} {c : Nat} : ∀ {es : List (AV × AV × Nat)} {ks : List ByteArray}, keysOf es = some ks → k ∉ ks → findA 2 (.str n) (es ++ [(.str k, v, c)]) = if n = k then some (some v) else findA 2 (.str n) es
  | [], ks, h, hk => by
    show findA 2 (.str n) [(.str k, v, c)] = _
    unfold findA
    rw [eq_str]
    by_cases hn : n = k
    · rw [decide_eq_true hn, if_pos hn]
    · rw [decide_eq_false hn, if_neg hn]; rfl
  | x :: r, ks, h, hk => by
    obtain ⟨t, u, m, ks', rfl, hk', rfl⟩ := keysOf_cons h
    show findA 2 (.str n) ((.str t, u, m) :: (r ++ [(.str k, v, c)])) = _
    unfold findA
    rw [eq_str]
    have hkt : k ≠ t := fun e => hk (e ▸ List.mem_cons_self ..)
    by_cases hn : n = t
    · rw [decide_eq_true hn, if_neg (by rw [hn]; exact fun h => hkt h.symm)]
    · rw [decide_eq_false hn]
      exact find_app hk' fun h => hk (List.mem_cons_of_mem _ h)
theorem find_del {k n : ByteArray} : ∀ {es : List (AV × AV × Nat)} {ks : List ByteArray}, keysOf es = some ks → ks.Nodup → findA 2 (.str n) (delA 2 (.str k) es) = if n = k then some none else findA 2 (.str n) es
  | [], ks, h, hk => by
    show some none = _
    split <;> rfl
  | x :: r, ks, h, hk => by
    obtain ⟨t, u, m, ks', rfl, hk', rfl⟩ := keysOf_cons h
    obtain ⟨h1, h2⟩ := List.nodup_cons.1 hk
    unfold delA
    rw [eq_str]
    by_cases e : k = t
    · subst e
      rw [decide_eq_true rfl, if_pos rfl]
      by_cases hn : n = k
      · rw [if_pos hn, hn]; exact find_out hk' h1
      · rw [if_neg hn]
        conv => rhs; unfold findA
        rw [eq_str, decide_eq_false hn]
    · rw [decide_eq_false e, if_neg (by simp)]
      unfold findA
      rw [eq_str]
      by_cases hn : n = t
      · rw [decide_eq_true hn, if_neg (by rw [hn]; exact fun h => e h.symm)]
      · rw [decide_eq_false hn]
        exact find_del hk' h2
theorem look_up {es : List (AV × AV × Nat)} {c : Nat} {ks : List ByteArray} (h : MapV es c ks) (k v n : ByteArray) : lookE (upE es c k v).1 n = if n = k then some v else lookE es n := by
  unfold lookE upE
  rcases h.look k with ⟨hk, u, hu⟩ | ⟨hk, hu⟩
  · rw [hu]
    simp only
    rw [find_set h.ok.keys hk]
    by_cases hn : n = k
    · rw [if_pos hn, if_pos hn]
    · rw [if_neg hn, if_neg hn]
  · rw [hu]
    simp only
    rw [find_app h.ok.keys hk]
    by_cases hn : n = k
    · rw [if_pos hn, if_pos hn]
    · rw [if_neg hn, if_neg hn]
theorem look_del {es : List (AV × AV × Nat)} {c : Nat} {ks : List ByteArray} (h : MapV es c ks) (k n : ByteArray) : lookE (delA 2 (.str k) es) n = if n = k then none else lookE es n := by
  unfold lookE
  rw [find_del h.ok.keys (nodup_ks h.ok.apart)]
  by_cases hn : n = k
  · rw [if_pos hn, if_pos hn]
  · rw [if_neg hn, if_neg hn]
theorem vars_ins {es : List (AV × AV × Nat)} {c : Nat} {ks ks' : List ByteArray} (h : MapV es c ks) {k v : ByteArray} (h' : MapV (upE es c k v).1 (upE es c k v).2 ks') : varsP (upE es c k v).1 ks' = insD (varsP es ks) k v :=
  up_ext (vars_up h') (ins_up (vars_up h)) fun n => by rw [vars_get h', ins_get, vars_get h, look_up h]
theorem vars_rem {es : List (AV × AV × Nat)} {c : Nat} {ks ks' : List ByteArray} (h : MapV es c ks) {k : ByteArray} (h' : MapV (delA 2 (.str k) es) c ks') : varsP (delA 2 (.str k) es) ks' = remD (varsP es ks) k :=
  up_ext (vars_up h') ((vars_up h).sublist rem_sub) fun n => by rw [vars_get h', rem_get (vars_up h), vars_get h, look_del h]
/-! Is a text in a row? -/
theorem index_loop {v : AV} {T : List ByteArray} {s : ByteArray} (hv : RV fs 1 v (T.map .str) T.length) (hT : T.length ≤ 1000000) {Q : AO → Env → List Fact → Prop} (hf : s ∉ T → ∀ e, Q (.exit 0) e fs) (ht : ∀ i : Nat, s ∈ T → ∀ e, Sub e [(4, .int .i64 i)] → Q .ret e fs) :
    ∀ (l : List ByteArray) (n : Nat), T.drop n = l → n ≤ T.length → s ∉ T.take n → WL sW ftab lb63_0 19 [(0, v), (1, .str s), (7, .int .i64 T.length), (8, .int .i64 n)] fs Q
  | [], n, hl, hn, hp => by
    have hge : T.length ≤ n := List.drop_eq_nil_iff.1 hl
    refine l_round ?_
    refine cgo ?_
    refine g_do rfl (o_lss (xt rfl) (xt rfl) (fun h => by omega) (fun h => ?_))
    refine cgo ?_
    exact hf (by rw [List.take_of_length_le hge] at hp; exact hp) _
  | t :: l, n, hl, hn, hp => by
    have h1 : T[n]? = some t := by
      have := congrArg List.head? hl
      rw [List.head?_drop] at this; simpa using this
    have h2 : T.drop (n + 1) = l := by
      have := congrArg List.tail hl
      simpa using this
    have h3 : n < T.length := (List.getElem?_eq_some_iff.1 h1).1
    obtain ⟨sr, rfl, hrd, hz⟩ := hv.some (by omega)
    refine l_round ?_
    refine cgo ?_
    refine g_do rfl (o_lss (xt rfl) (xt rfl) (fun h => ?_) (fun h => by omega))
    refine cgo ?_
    refine w_block ?_
    refine cgo ?_
    refine g_do rfl (o_iaddr (xt rfl) (xt rfl) ⟨by omega, by omega⟩ hz ?_)
    refine g_do rfl (o_loadr (v := .str t) (xt rfl) hrd ?_ ?_)
    · simp only [apart]
      rw [show ((n : Nat) : Int).toNat * 1 = n by omega, List.getElem?_map, h1]; rfl
    refine g_do rfl (o_eqs (xt rfl) (xt rfl) (fun hb => ?_) (fun hb => ?_))
    · refine cgo ?_
      exact ht n (hb ▸ List.mem_of_getElem? h1) _ (.cons rfl .nil)
    · refine cgo ?_
      refine g_do rfl (o_add (xt rfl) xc (by constructor <;> omega) ?_)
      refine cgo ?_
      refine l_sub (e' := [(0, .row (T.map .str) T.length sr), (1, .str s), (7, .int .i64 T.length), (8, .int .i64 ((n + 1 : Nat) : Int))]) (.cons rfl (.cons rfl (.cons rfl (.cons rfl .nil)))) (fun _ h => h) ?_
      refine index_loop hv hT hf ht l (n + 1) h2 (by omega) ?_
      rw [List.take_add_one, h1]
      simp only [Option.toList_some, List.mem_append, List.mem_singleton]
      rintro (h | h)
      · exact hp h
      · exact hb h
theorem contains_ev {v : AV} {T : List ByteArray} {s : ByteArray} (hv : RV fs 1 v (T.map .str) T.length) (hT : T.length ≤ 1000000) {K : KK} (ht : s ∈ T → K (.bool true) fs) (hf : s ∉ T → K (.bool false) fs) : Ev sW ftab 39 [v, .str s] fs K := by
  refine ev_fn (nt := 9) (kb := kb39) (kr := kr39) rfl rfl (Nat.le_of_ble_eq_true rfl) ?_
  refine cgo ?_
  refine g_do rfl (o_call (.cons (xt rfl) (.cons (xt rfl) .nil)) (ev_fn (nt := 19) (kb := kb63) (kr := kr63) rfl rfl (Nat.le_of_ble_eq_true rfl) ?_))
  refine cgo ?_
  refine g_do rfl (o_len (xt rfl) hv ?_)
  refine cgo ?_
  refine w_block (w_loop ?_)
  refine l_sub (e' := [(0, v), (1, .str s), (7, .int .i64 T.length), (8, .int .i64 ((0 : Nat) : Int))]) (.cons rfl (.cons rfl (.cons rfl (.cons rfl .nil)))) (fun _ h => h) ?_
  refine index_loop hv hT (fun hn e => ?_) (fun i hy e hS => ?_) T 0 rfl (by omega) (by simp)
  · refine cgo ?_
    refine ⟨trivial, _, _, .one (.tmp rfl), .refl _, ?_⟩
    refine g_do rfl (o_geq (xt rfl) xc (fun h => absurd h (by decide)) (fun _ => ?_))
    refine cgo ?_
    exact ⟨trivial, _, _, .one (.tmp rfl), .refl _, hf hn⟩
  · cases hS with | cons h3 _ =>
    refine ⟨trivial, _, _, .one (.tmp h3), .refl _, ?_⟩
    refine g_do rfl (o_geq (xt rfl) xc (fun _ => ?_) (fun h => absurd (by omega) h))
    refine cgo ?_
    exact ⟨trivial, _, _, .one (.tmp rfl), .refl _, ht hy⟩
def isL : List ByteArray := [⟨#[58]⟩, ⟨#[116, 114, 117, 101]⟩, ⟨#[102, 97, 108, 115, 101]⟩, ⟨#[101, 99, 104, 111]⟩, ⟨#[101, 120, 112, 111, 114, 116]⟩, ⟨#[117, 110, 115, 101, 116]⟩, ⟨#[114, 101, 97, 100]⟩, ⟨#[115, 101, 116]⟩, ⟨#[115, 104, 105, 102, 116]⟩, ⟨#[98, 114, 101, 97, 107]⟩, ⟨#[99, 111, 110, 116, 105, 110, 117, 101]⟩, ⟨#[114, 101, 116, 117, 114, 110]⟩, ⟨#[101, 120, 105, 116]⟩]
theorem is_ev {s : ByteArray} (hs : s ∈ isL) {K : KK} (h : K (.bool true) fs) : Ev sW ftab 22 [.str s] fs K := by
  refine ev_fn (nt := 6) (kb := kb22) (kr := kr22) rfl rfl (Nat.le_of_ble_eq_true rfl) ?_
  refine cgo ?_
  refine g_do rfl (o_row (cs := isL.map .str) (.cons xc (.cons xc (.cons xc (.cons xc (.cons xc (.cons xc (.cons xc (.cons xc (.cons xc (.cons xc (.cons xc (.cons xc (.cons xc .nil))))))))))))) rfl rfl fun f id => ?_)
  refine cgo ?_
  refine g_do rfl (o_call (.cons (xt rfl) (.cons (xt rfl) .nil)) (contains_ev (T := isL) (.row (s := ⟨f, id, 0, 1⟩) (.own .here) rfl) (by decide) (fun _ => ?_) (fun hn => absurd hs hn)))
  refine cgo ?_
  exact ⟨trivial, _, _, .one (.tmp rfl), .cons _ (.refl _), h⟩
/-! A number, or none. -/
def numberS (l : List ByteArray) (z : Int) : Int × Bool := match l with
  | [] => (z, true)
  | [s] => (((numM s).1 : Int), (numM s).2)
  | _ => (0, false)
theorem num_ev {v : AV} {T : List ByteArray} {z : Int} (hv : RV fs 1 v (T.map .str) T.length) (hs : ∀ s ∈ T, s.size ≤ 1000000000) {K : KK} (h : K (.tup [.int .i64 (numberS T z).1, .bool (numberS T z).2]) fs) : Ev sW ftab 54 [v, .int .i64 z] fs K := by
  refine ev_fn (nt := 19) (kb := kb54) (kr := kr54) rfl rfl (Nat.le_of_ble_eq_true rfl) ?_
  refine cgo ?_
  refine g_do rfl (o_len (xt rfl) hv ?_)
  refine cgo ?_
  refine w_block ?_
  refine cgo ?_
  match T, hv, hs, h with
  | [], hv, hs, h =>
    refine g_do rfl (o_eqi (xt rfl) xc (fun _ => ?_) (fun h => absurd rfl h))
    refine cgo ?_
    exact ⟨trivial, _, fs, .tup (.cons (.tmp rfl) (.cons (.tmp rfl) .nil)), .refl _, h⟩
  | [s], hv, hs, h =>
    obtain ⟨sr, rfl, hrd, hz⟩ := hv.some (by simp)
    refine g_do rfl (o_eqi (xt rfl) xc (fun h => by simp at h) (fun _ => ?_))
    refine cgo ?_
    refine g_do rfl (o_eqi (xt rfl) xc (fun _ => ?_) (fun h => absurd rfl h))
    refine cgo ?_
    refine g_do rfl (o_iaddr (xt rfl) xc ⟨by decide, by simp⟩ hz ?_)
    refine g_do rfl (o_loadr (v := .str s) (xt rfl) hrd rfl ?_)
    refine g_do rfl (o_call (.cons (xt rfl) .nil) (number_ev rfl rfl (hs s (List.mem_cons_self ..)) ?_))
    refine cgo ?_
    exact ⟨trivial, _, fs, .tup (.cons (.tmp rfl) (.cons (.tmp rfl) .nil)), .refl _, h⟩
  | s :: t :: T, hv, hs, h =>
    have hl : (s :: t :: T).length = T.length + 2 := rfl
    refine g_do rfl (o_eqi (xt rfl) xc (fun h => by omega) (fun _ => ?_))
    refine cgo ?_
    refine g_do rfl (o_eqi (xt rfl) xc (fun h => by omega) (fun _ => ?_))
    refine cgo ?_
    exact ⟨trivial, _, fs, .tup (.cons (.tmp rfl) (.cons (.tmp rfl) .nil)), .refl _, h⟩
/-- What was done. -/
abbrev doneA (c g n : Int) : AV := .agg [.int .i64 c, .str ⟨#[]⟩, .int .i64 g, .int .i64 n, .int .i64 0]
section
variable {S : Sum} {F : FuncId → Option AF} {fs fs' : List Fact} {e : Env}
theorem RV.app {size : Nat} {v : AV} {cs : List AV} {n : Nat} {a b : List Fact} (h : RV b size v cs n) : RV (a ++ b) size v cs n := by
  cases h with
  | nil => exact .nil
  | row h1 h2 => cases h1 with
    | frz h1 => exact .row (.frz h1) h2
    | own h1 => exact .row (.own h1.app) h2
theorem RV.of {size n : Nat} {v : AV} {cs : List AV} {fsA b : List Fact} (h : AR size v cs n fsA) : RV (fsA ++ b) size v cs n := by
  cases h with
  | nil => exact .nil
  | own h => exact .row (.own .here) rfl
theorem Ev.perm {f : FuncId} {args : List AV} {K : KK} (hp : fs.Perm fs') (h : Ev S F f args fs' K) : Ev S F f args fs K := fun h0 hh => h h0 (hh.perm hp)
def cutV (v : AV) (size p q : Nat) : AV := match v with
  | .row cs _ s => .row ((cs.drop (p * size)).take ((q - p) * size)) (q - p) (s.adv (p * size))
  | _ => .nilrow
theorem cutV_rv {v : AV} {cs : List AV} {n size p q : Nat} (h : RV fs size v cs n) (hq : p ≤ q ∧ q ≤ n) : RV fs size (cutV v size p q) ((cs.drop (p * size)).take ((q - p) * size)) (q - p) := by
  cases h with
  | nil =>
    have : q = 0 := by omega
    subst this
    simp only [Nat.zero_sub, cutV, List.drop_nil, List.take_nil]; exact .nil
  | row h1 h2 => exact .row (h1.adv _) (by rw [adv_size]; exact h2)
theorem o_cutv {size : Nat} {x : AX} {lo hi : Option AX} {v : AV} {cs : List AV} {n p q : Nat} {a b : Option AV} {K : KK} (hx : XV e x v) (hv : RV fs size v cs n) (hl : XO e lo a) (hh : XO e hi b) (hb : bounds n a b = some (p, q)) (h : K (cutV v size p q) fs) : WO S F (oCutrow size x lo hi) e fs K := by
  cases hv with
  | nil => exact o_cutn hx hl hh hb h
  | row h1 h2 => exact o_cutr hx h1 h2 hl hh hb h
theorem XR.ofRV {x : AX} {v : AV} {cs : List AV} {n size : Nat} (hx : XV e x v) (h : RV fs size v cs n) : XR e fs x size cs n := by
  cases h with
  | nil => exact .nil hx
  | row h1 h2 => exact .ofRd hx h1 h2
/-- A row of one's own grows by another row. -/
theorem o_appw {size bytes : Nat} {a x : AX} {ds cs : List AV} {len n f id : Nat} {fs' : Nat → List Fact} {K : KK} (ha : XV e a (.row ds len ⟨f, id, 0, size⟩)) (hx : XR e fs x size cs n) (hs : cs.all scalar = true) (hl : cs.length = n * size) (hb : (len + n) * bytes ≤ 70368744177664 ∧ len + n ≤ 70368744177664)
    (hp : ∀ id', Put fs (.row f id (len * size)) (.row f id' ((len + n) * size)) (fs' id')) (h : ∀ id', K (.row (ds ++ cs) (len + n) ⟨f, id', 0, size⟩) (fs' id')) : WO S F (oAppend size bytes a x) e fs K := by
  by_cases h0 : n = 0
  · subst h0
    have hc : cs = [] := List.eq_nil_of_length_eq_zero (by omega)
    subst hc
    refine o_appo0 ha hx hs rfl (hp id).has ?_
    have h1 := h id
    rw [Put.same (hp id) (by rw [Nat.add_zero]), List.append_nil, Nat.add_zero] at h1
    exact h1
  · refine o_appo (m := len * size) (fs' := fs') ha hx hs h0 hb rfl (fun id' => ?_) h
    have : 0 + len * size + n * size = (len + n) * size := by rw [Nat.zero_add, Nat.add_mul]
    show Put fs _ (.row f id' (0 + len * size + n * size)) _
    rw [this]; exact hp id'
theorem o_lst {x y : AX} {a b : ByteArray} {K : KK} (hx : XV e x (.str a)) (hy : XV e y (.str b)) (h : K (.bool (decide (a.data.toList < b.data.toList))) fs) : WO S F (oArith .lss x y) e fs K :=
  o_arith hx hy (by simp only [aarith, bytesLess_eq, ByteArray.toList_eq]) h
/-! What stays known. -/
def Fr (ks : List (Nat × Nat)) (fs fs' : List Fact) : Prop := ∀ y, Has fs y → y.key ∉ ks → Has fs' y
theorem Fr.refl {ks : List (Nat × Nat)} : Fr ks fs fs := fun _ h _ => h
theorem Fr.trans {ks : List (Nat × Nat)} {a b c : List Fact} (h : Fr ks a b) (k : Fr ks b c) : Fr ks a c := fun y hy hn => k y (h y hy hn) hn
theorem Fr.more {ks js : List (Nat × Nat)} {a b : List Fact} (h : Fr ks a b) (hs : ∀ x ∈ ks, x ∈ js) : Fr js a b := fun y hy hn => h y hy fun hm => hn (hs _ hm)
theorem Fr.put {x y : Fact} (h : Put fs x y fs') : Fr [x.key] fs fs' := fun z hz hn => h.keep hz fun e => hn (by rw [e]; exact List.mem_singleton.2 rfl)
theorem Fr.cons {ks : List (Nat × Nat)} {x : Fact} {a b : List Fact} (h : Fr ks a b) : Fr ks a (x :: b) := fun y hy hn => .there (h y hy hn)
theorem Fr.app {ks : List (Nat × Nat)} {l a b : List Fact} (h : Fr ks a b) : Fr ks a (l ++ b) := fun y hy hn => (h y hy hn).app
theorem RV.fr {ks : List (Nat × Nat)} {size : Nat} {v : AV} {cs : List AV} {n : Nat} (h : RV fs size v cs n) (g : Fr ks fs fs') (hk : ∀ x ∈ ks, x.1 = 0) : RV fs' size v cs n := by
  cases h with
  | nil => exact .nil
  | row h1 h2 => cases h1 with
    | frz h1 => exact .row (.frz h1) h2
    | own h1 => exact .row (.own (g _ h1 fun hm => absurd (hk _ hm) (Nat.one_ne_zero))) h2
theorem Has.head {x : Fact} (h : Has fs x) : ∃ r, fs.Perm (x :: r) ∧ Fr [x.key] fs r := by
  induction h with
  | here => exact ⟨_, .refl _, fun y hy hn => by
      cases hy with
      | here => exact absurd (List.mem_singleton.2 rfl) hn
      | there h => exact h⟩
  | there h ih =>
    rename_i x y r
    obtain ⟨r', hp, hf⟩ := ih
    refine ⟨y :: r', (hp.cons y).trans (.swap ..), fun z hz hn => ?_⟩
    cases hz with
    | here => exact .here
    | there hz => exact .there (hf z hz hn)
theorem bk {i j : Nat} {b : ABlk} (h : i ≠ j) : (Fact.blk i b).key ∉ [(0, j)] := fun hm => h (congrArg Prod.snd (List.mem_singleton.1 hm))
theorem zk {j : Nat} : ∀ x ∈ [((0 : Nat), j)], x.1 = 0 := fun x hx => by rw [List.mem_singleton.1 hx]
end
theorem idx_neg {c : Nat} {l : List UInt8} (h : idxOf c l 0 < 0) : ∀ b ∈ l, b.toNat ≠ c := by
  rcases idxOf_spec c l 0 with ⟨_, h2⟩ | ⟨k, h1, _⟩
  · exact h2
  · omega
theorem idx_pos {c : Nat} {l : List UInt8} (h : ¬ idxOf c l 0 < 0) : ¬ ∀ b ∈ l, b.toNat ≠ c := by
  rcases idxOf_spec c l 0 with ⟨h1, _⟩ | ⟨k, h1, h2, h3, b, h4, h5⟩
  · omega
  · exact fun h => h b (List.mem_of_getElem? h4) h5
theorem efits_ev {s : ByteArray} {K : KK} (ht : Fits s → K (.bool true) fs) (hf : ¬ Fits s → K (.bool false) fs) : Ev sW ftab 17 [.str s] fs K := by
  refine ev_fn (nt := 11) (kb := kb17) (kr := kr17) rfl rfl (Nat.le_of_ble_eq_true rfl) ?_
  refine cgo ?_
  refine g_do rfl (o_leq (xt rfl) xc (fun h1 => ?_) (fun h1 => ?_))
  · refine cgo ?_
    refine g_do rfl (o_call (.cons (xt rfl) (.cons xc .nil)) (ix3_ev (b := 0) (by decide) ?_))
    refine cgo ?_
    refine g_do rfl (o_lss (xt rfl) xc (fun h2 => ?_) (fun h2 => ?_))
    · refine cgo ?_
      exact ⟨trivial, _, fs, .one (.tmp rfl), .refl _, ht ⟨by omega, idx_neg h2⟩⟩
    · refine cgo ?_
      exact ⟨trivial, _, fs, .one (.tmp rfl), .refl _, hf fun h => idx_pos h2 h.2⟩
  · refine cgo ?_
    exact ⟨trivial, _, fs, .one (.tmp rfl), .refl _, hf fun h => h1 (by have := h.1; omega)⟩
theorem clone2_ev {v : AV} {cs : List AV} {n : Nat} (hv : RV fs 1 v cs n) (h0 : n = 0 → v = .nilrow) (hs : cs.all scalar = true) (hn : n ≤ 1000000) {K : KK} (h : ∀ v' fsB, AR 1 v' cs n fsB → K v' (fsB ++ fs)) : Ev sW ftab 21 [v] fs K := by
  refine ev_fn (nt := 8) (kb := kb21) (kr := kr21) rfl rfl (Nat.le_of_ble_eq_true rfl) ?_
  cases hv with
  | nil =>
    repeat (first | (refine g_do rfl ?_; first | refine o_move (xt rfl) ?_ | refine o_move xc ?_ | refine o_faddr (xt rfl) ?_ | refine o_nil (xt rfl) ?_ | refine o_load (xt rfl) (by repeat (first | exact .here | refine .there ?_)) rfl ?_ | refine o_lens (xt rfl) ?_ | refine o_lenr (xt rfl) ?_ | refine o_lenn (xt rfl) ?_ | refine o_pick (b := true) (xt rfl) xc ?_ | refine o_pick (b := true) (xt rfl) (xt rfl) ?_ | refine o_pick (b := false) (xt rfl) xc ?_ | refine o_pick (b := false) (xt rfl) (xt rfl) ?_ | refine o_not (xt rfl) ?_ | refine o_extract (xt rfl) rfl ?_ | refine o_box xc rfl fun _ => ?_ | refine o_build .nil rfl ?_ | refine o_build (.cons xc .nil) rfl ?_) | refine g_if rfl ?_ | refine g_skip rfl rfl rfl ?_ | refine g_skipn rfl rfl ?_ | refine g_end ?_ | (refine g_do0 ?_; refine o_store (xt rfl) (xt rfl) (by first | exact .here | exact .there .here | exact .there (.there .here)) ⟨rfl, (Nat.le_of_ble_eq_true rfl)⟩ rfl rfl ?_) | refine w_rs ?_ | refine w_assoc ?_ | refine w_reg ?_ | refine w_cond (xt rfl) ?_ | refine w_skip ?_ | refine w_seq ?_ | refine w_ret ?_ | refine w_exit ?_)
    refine g_do rfl (o_eq (c := true) (xt rfl) xc rfl ?_)
    repeat (first | (refine g_do rfl ?_; first | refine o_move (xt rfl) ?_ | refine o_move xc ?_ | refine o_faddr (xt rfl) ?_ | refine o_nil (xt rfl) ?_ | refine o_load (xt rfl) (by repeat (first | exact .here | refine .there ?_)) rfl ?_ | refine o_lens (xt rfl) ?_ | refine o_lenr (xt rfl) ?_ | refine o_lenn (xt rfl) ?_ | refine o_pick (b := true) (xt rfl) xc ?_ | refine o_pick (b := true) (xt rfl) (xt rfl) ?_ | refine o_pick (b := false) (xt rfl) xc ?_ | refine o_pick (b := false) (xt rfl) (xt rfl) ?_ | refine o_not (xt rfl) ?_ | refine o_extract (xt rfl) rfl ?_ | refine o_box xc rfl fun _ => ?_ | refine o_build .nil rfl ?_ | refine o_build (.cons xc .nil) rfl ?_) | refine g_if rfl ?_ | refine g_skip rfl rfl rfl ?_ | refine g_skipn rfl rfl ?_ | refine g_end ?_ | (refine g_do0 ?_; refine o_store (xt rfl) (xt rfl) (by first | exact .here | exact .there .here | exact .there (.there .here)) ⟨rfl, (Nat.le_of_ble_eq_true rfl)⟩ rfl rfl ?_) | refine w_rs ?_ | refine w_assoc ?_ | refine w_reg ?_ | refine w_cond (xt rfl) ?_ | refine w_skip ?_ | refine w_seq ?_ | refine w_ret ?_ | refine w_exit ?_)
    exact ⟨trivial, _, fs, .one (.tmp rfl), .refl _, h _ _ .nil⟩
  | row h1 h2 =>
    rename_i s
    have hn0 : n ≠ 0 := fun e => by cases h0 e
    repeat (first | (refine g_do rfl ?_; first | refine o_move (xt rfl) ?_ | refine o_move xc ?_ | refine o_faddr (xt rfl) ?_ | refine o_nil (xt rfl) ?_ | refine o_load (xt rfl) (by repeat (first | exact .here | refine .there ?_)) rfl ?_ | refine o_lens (xt rfl) ?_ | refine o_lenr (xt rfl) ?_ | refine o_lenn (xt rfl) ?_ | refine o_pick (b := true) (xt rfl) xc ?_ | refine o_pick (b := true) (xt rfl) (xt rfl) ?_ | refine o_pick (b := false) (xt rfl) xc ?_ | refine o_pick (b := false) (xt rfl) (xt rfl) ?_ | refine o_not (xt rfl) ?_ | refine o_extract (xt rfl) rfl ?_ | refine o_box xc rfl fun _ => ?_ | refine o_build .nil rfl ?_ | refine o_build (.cons xc .nil) rfl ?_) | refine g_if rfl ?_ | refine g_skip rfl rfl rfl ?_ | refine g_skipn rfl rfl ?_ | refine g_end ?_ | (refine g_do0 ?_; refine o_store (xt rfl) (xt rfl) (by first | exact .here | exact .there .here | exact .there (.there .here)) ⟨rfl, (Nat.le_of_ble_eq_true rfl)⟩ rfl rfl ?_) | refine w_rs ?_ | refine w_assoc ?_ | refine w_reg ?_ | refine w_cond (xt rfl) ?_ | refine w_skip ?_ | refine w_seq ?_ | refine w_ret ?_ | refine w_exit ?_)
    refine g_do rfl (o_eq (c := false) (xt rfl) xc (by simp only [scalarEq]; rw [if_pos ⟨trivial, fun h => hn0 h.2.1⟩]) ?_)
    repeat (first | (refine g_do rfl ?_; first | refine o_move (xt rfl) ?_ | refine o_move xc ?_ | refine o_faddr (xt rfl) ?_ | refine o_nil (xt rfl) ?_ | refine o_load (xt rfl) (by repeat (first | exact .here | refine .there ?_)) rfl ?_ | refine o_lens (xt rfl) ?_ | refine o_lenr (xt rfl) ?_ | refine o_lenn (xt rfl) ?_ | refine o_pick (b := true) (xt rfl) xc ?_ | refine o_pick (b := true) (xt rfl) (xt rfl) ?_ | refine o_pick (b := false) (xt rfl) xc ?_ | refine o_pick (b := false) (xt rfl) (xt rfl) ?_ | refine o_not (xt rfl) ?_ | refine o_extract (xt rfl) rfl ?_ | refine o_box xc rfl fun _ => ?_ | refine o_build .nil rfl ?_ | refine o_build (.cons xc .nil) rfl ?_) | refine g_if rfl ?_ | refine g_skip rfl rfl rfl ?_ | refine g_skipn rfl rfl ?_ | refine g_end ?_ | (refine g_do0 ?_; refine o_store (xt rfl) (xt rfl) (by first | exact .here | exact .there .here | exact .there (.there .here)) ⟨rfl, (Nat.le_of_ble_eq_true rfl)⟩ rfl rfl ?_) | refine w_rs ?_ | refine w_assoc ?_ | refine w_reg ?_ | refine w_cond (xt rfl) ?_ | refine w_skip ?_ | refine w_seq ?_ | refine w_ret ?_ | refine w_exit ?_)
    refine g_do rfl (o_row .nil rfl rfl fun f id => ?_)
    repeat (first | (refine g_do rfl ?_; first | refine o_move (xt rfl) ?_ | refine o_move xc ?_ | refine o_faddr (xt rfl) ?_ | refine o_nil (xt rfl) ?_ | refine o_load (xt rfl) (by repeat (first | exact .here | refine .there ?_)) rfl ?_ | refine o_lens (xt rfl) ?_ | refine o_lenr (xt rfl) ?_ | refine o_lenn (xt rfl) ?_ | refine o_pick (b := true) (xt rfl) xc ?_ | refine o_pick (b := true) (xt rfl) (xt rfl) ?_ | refine o_pick (b := false) (xt rfl) xc ?_ | refine o_pick (b := false) (xt rfl) (xt rfl) ?_ | refine o_not (xt rfl) ?_ | refine o_extract (xt rfl) rfl ?_ | refine o_box xc rfl fun _ => ?_ | refine o_build .nil rfl ?_ | refine o_build (.cons xc .nil) rfl ?_) | refine g_if rfl ?_ | refine g_skip rfl rfl rfl ?_ | refine g_skipn rfl rfl ?_ | refine g_end ?_ | (refine g_do0 ?_; refine o_store (xt rfl) (xt rfl) (by first | exact .here | exact .there .here | exact .there (.there .here)) ⟨rfl, (Nat.le_of_ble_eq_true rfl)⟩ rfl rfl ?_) | refine w_rs ?_ | refine w_assoc ?_ | refine w_reg ?_ | refine w_cond (xt rfl) ?_ | refine w_skip ?_ | refine w_seq ?_ | refine w_ret ?_ | refine w_exit ?_)
    refine g_do rfl (o_appo (fs' := fun id' => .row f id' (0 + 0 * 1 + n * 1) :: fs) (xt rfl) (XR.ofRd (xt rfl) h1.cons h2) hs hn0 ⟨by omega, by omega⟩ rfl (fun _ => .here) fun id' => ?_)
    repeat (first | (refine g_do rfl ?_; first | refine o_move (xt rfl) ?_ | refine o_move xc ?_ | refine o_faddr (xt rfl) ?_ | refine o_nil (xt rfl) ?_ | refine o_load (xt rfl) (by repeat (first | exact .here | refine .there ?_)) rfl ?_ | refine o_lens (xt rfl) ?_ | refine o_lenr (xt rfl) ?_ | refine o_lenn (xt rfl) ?_ | refine o_pick (b := true) (xt rfl) xc ?_ | refine o_pick (b := true) (xt rfl) (xt rfl) ?_ | refine o_pick (b := false) (xt rfl) xc ?_ | refine o_pick (b := false) (xt rfl) (xt rfl) ?_ | refine o_not (xt rfl) ?_ | refine o_extract (xt rfl) rfl ?_ | refine o_box xc rfl fun _ => ?_ | refine o_build .nil rfl ?_ | refine o_build (.cons xc .nil) rfl ?_) | refine g_if rfl ?_ | refine g_skip rfl rfl rfl ?_ | refine g_skipn rfl rfl ?_ | refine g_end ?_ | (refine g_do0 ?_; refine o_store (xt rfl) (xt rfl) (by first | exact .here | exact .there .here | exact .there (.there .here)) ⟨rfl, (Nat.le_of_ble_eq_true rfl)⟩ rfl rfl ?_) | refine w_rs ?_ | refine w_assoc ?_ | refine w_reg ?_ | refine w_cond (xt rfl) ?_ | refine w_skip ?_ | refine w_seq ?_ | refine w_ret ?_ | refine w_exit ?_)
    refine ⟨trivial, _, _, .one (.tmp rfl), .refl _, ?_⟩
    show K (.row ([] ++ cs) (0 + n) ⟨f, id', 0, 1⟩) _
    rw [List.nil_append, Nat.zero_add n, show 0 + 0 * 1 + n * 1 = n * 1 by omega]
    exact h _ [.row f id' (n * 1)] (.own hn0)
/-! Flags. -/
def encF (x : UInt8 × Int × Nat) : AV × AV × Nat := (.int .u8 x.1.toNat, .int .i64 x.2.1, x.2.2)
def getL : List (UInt8 × Int × Nat) → UInt8 → Option Int
  | [], _ => none
  | x :: r, b => if x.1 = b then some x.2.1 else getL r b
def setL : List (UInt8 × Int × Nat) → UInt8 → Int → List (UInt8 × Int × Nat)
  | [], _, _ => []
  | y :: r, b, x => if y.1 = b then (y.1, x, y.2.2) :: r else y :: setL r b x
theorem eq_u8 (a b : UInt8) : scalarEq 1 (.int .u8 a.toNat) (.int .u8 b.toNat) = some (decide (a = b)) := by
  have : ((a.toNat : Int) == (b.toNat : Int)) = decide (a = b) := by
    by_cases h : a = b
    · subst h; simp
    · have : ¬ (a.toNat = b.toNat) := fun e => h (UInt8.toNat_inj.1 e)
      rw [decide_eq_false h]
      simpa using (by omega : ¬ ((a.toNat : Int) = (b.toNat : Int)))
  simp only [scalarEq, this, and_self, if_true]
theorem find_enc (b : UInt8) : ∀ (L : List (UInt8 × Int × Nat)), findA 1 (.int .u8 b.toNat) (L.map encF) = some ((getL L b).map (.int .i64 ·))
  | [] => rfl
  | x :: r => by
    show findA 1 _ (encF x :: r.map encF) = _
    unfold encF findA
    rw [eq_u8]
    by_cases h : x.1 = b
    · rw [decide_eq_true h.symm]
      simp only [getL, if_pos h]; rfl
    · rw [decide_eq_false (fun e => h e.symm)]
      simp only [getL, if_neg h]
      exact find_enc b r
theorem set_enc (b : UInt8) (x : Int) : ∀ (L : List (UInt8 × Int × Nat)), setA 1 (.int .u8 b.toNat) (.int .i64 x) (L.map encF) = (setL L b x).map encF
  | [] => rfl
  | y :: r => by
    show setA 1 (.int .u8 b.toNat) (.int .i64 x) ((.int .u8 y.1.toNat, .int .i64 y.2.1, y.2.2) :: r.map encF) = _
    rw [setA, eq_u8]
    by_cases h : y.1 = b
    · have e1 : setL (y :: r) b x = (y.1, x, y.2.2) :: r := if_pos h
      rw [e1, decide_eq_true h.symm, if_pos rfl, List.map_cons]
      show _ = (AV.int .u8 y.1.toNat, AV.int .i64 x, y.2.2) :: _
      rw [h]
    · have e1 : setL (y :: r) b x = y :: setL r b x := if_neg h
      rw [e1, decide_eq_false (fun e => h e.symm), if_neg (by simp), List.map_cons, set_enc b x r]; rfl
def putL (L : List (UInt8 × Int × Nat)) (c : Nat) (b : UInt8) (x : Int) : List (UInt8 × Int × Nat) × Nat := match getL L b with
  | some _ => (setL L b x, c)
  | none => (L ++ [(b, x, c)], c + 1)
theorem getL_set (b : UInt8) (x : Int) (d : UInt8) : ∀ (L : List (UInt8 × Int × Nat)), getL L b ≠ none → getL (setL L b x) d = if d = b then some x else getL L d
  | [], h => absurd rfl h
  | y :: r, h => by
    by_cases hy : y.1 = b
    · simp only [setL, if_pos hy, getL]
      by_cases hd : d = b
      · rw [if_pos (by rw [hy, hd]), if_pos hd]
      · rw [if_neg (by rw [hy]; exact fun e => hd e.symm), if_neg hd, if_neg (by rw [hy]; exact fun e => hd e.symm)]
    · simp only [setL, if_neg hy, getL]
      have h' : getL r b ≠ none := by
        simp only [getL, if_neg hy] at h; exact h
      rw [getL_set b x d r h']
      by_cases hd : y.1 = d
      · rw [if_pos hd, if_neg (by rw [← hd]; exact hy), if_pos hd]
      · rw [if_neg hd, if_neg hd]
theorem getL_app (b : UInt8) (x : Int) (n : Nat) (d : UInt8) : ∀ (L : List (UInt8 × Int × Nat)), getL L b = none → getL (L ++ [(b, x, n)]) d = if d = b then some x else getL L d
  | [], h => by
    simp only [List.nil_append, getL]
    by_cases hd : d = b
    · rw [if_pos hd.symm, if_pos hd]
    · rw [if_neg (fun e => hd e.symm), if_neg hd]
  | y :: r, h => by
    have hy : ¬ y.1 = b := fun e => by simp only [getL, if_pos e] at h; cases h
    have h' : getL r b = none := by simp only [getL, if_neg hy] at h; exact h
    simp only [List.cons_append, getL, getL_app b x n d r h']
    by_cases hd : y.1 = d
    · rw [if_pos hd, if_neg (by rw [← hd]; exact hy), if_pos hd]
    · rw [if_neg hd, if_neg hd]
theorem getL_put (L : List (UInt8 × Int × Nat)) (c : Nat) (b : UInt8) (x : Int) (d : UInt8) : getL (putL L c b x).1 d = if d = b then some x else getL L d := by
  unfold putL
  cases h : getL L b with
  | some y => exact getL_set b x d L (by rw [h]; simp)
  | none => exact getL_app b x c d L h
/-- A flag is put. -/
theorem o_putf {m k v : AX} {e : Env} {i : Nat} {L : List (UInt8 × Int × Nat)} {c : Nat} {b : UInt8} {x : Int} {K : KK} (hm : XV e m (.map i)) (hk : XV e k (.int .u8 b.toNat)) (hv : XV e v (.int .i64 x))
    (hp : Put fs (.blk i (.map (L.map encF) c)) (.blk i (.map ((putL L c b x).1.map encF) (putL L c b x).2)) fs') (h : K (.tup []) fs') : WO sW ftab (oSet 1 m k v) e fs K := by
  have hf := find_enc b L
  unfold putL at hp
  cases hg : getL L b with
  | some y =>
    rw [hg] at hp hf
    have hp : Put fs (.blk i (.map (L.map encF) c)) (.blk i (.map ((setL L b x).map encF) c)) fs' := hp
    refine o_set (c := c) hm hk hv rfl hf ?_ h
    rw [set_enc]; exact hp
  | none =>
    rw [hg] at hp hf
    have hp : Put fs (.blk i (.map (L.map encF) c)) (.blk i (.map ((L ++ [(b, x, c)]).map encF) (c + 1))) fs' := hp
    refine o_setn (c := c) hm hk hv rfl hf ?_ h
    simp only [List.map_append, List.map_cons, List.map_nil] at hp
    exact hp
def efuT : ByteArray := ⟨#[101, 102, 117]⟩
theorem flag_ev {e m f c : Nat} {v : AV} {L : List (UInt8 × Int × Nat)} {b : UInt8} (he : Has fs (.blk e (.cells [.map m, v, .map f]))) (hf : Has fs (.blk f (.map (L.map encF) c))) {K : KK} (h : K (.bool (decide (0 < (getL L b).getD 0))) fs) : Ev sW ftab 13 [.ptr e 0, .int .u8 b.toNat] fs K := by
  refine ev_fn (nt := 12) (kb := kb13) (kr := kr13) rfl rfl (Nat.le_of_ble_eq_true rfl) ?_
  repeat (first | (refine g_do rfl ?_; first | refine o_move (xt rfl) ?_ | refine o_move xc ?_ | refine o_faddr (xt rfl) ?_ | refine o_nil (xt rfl) ?_ | refine o_load (xt rfl) (by repeat (first | exact .here | refine .there ?_)) rfl ?_ | refine o_lens (xt rfl) ?_ | refine o_lenr (xt rfl) ?_ | refine o_lenn (xt rfl) ?_ | refine o_pick (b := true) (xt rfl) xc ?_ | refine o_pick (b := true) (xt rfl) (xt rfl) ?_ | refine o_pick (b := false) (xt rfl) xc ?_ | refine o_pick (b := false) (xt rfl) (xt rfl) ?_ | refine o_not (xt rfl) ?_ | refine o_extract (xt rfl) rfl ?_ | refine o_box xc rfl fun _ => ?_ | refine o_build .nil rfl ?_ | refine o_build (.cons xc .nil) rfl ?_) | refine g_if rfl ?_ | refine g_skip rfl rfl rfl ?_ | refine g_skipn rfl rfl ?_ | refine g_end ?_ | (refine g_do0 ?_; refine o_store (xt rfl) (xt rfl) (by first | exact .here | exact .there .here | exact .there (.there .here)) ⟨rfl, (Nat.le_of_ble_eq_true rfl)⟩ rfl rfl ?_) | refine w_rs ?_ | refine w_assoc ?_ | refine w_reg ?_ | refine w_cond (xt rfl) ?_ | refine w_skip ?_ | refine w_seq ?_ | refine w_ret ?_ | refine w_exit ?_)
  refine g_do rfl (o_load (xt rfl) he rfl ?_)
  repeat (first | (refine g_do rfl ?_; first | refine o_move (xt rfl) ?_ | refine o_move xc ?_ | refine o_faddr (xt rfl) ?_ | refine o_nil (xt rfl) ?_ | refine o_load (xt rfl) (by repeat (first | exact .here | refine .there ?_)) rfl ?_ | refine o_lens (xt rfl) ?_ | refine o_lenr (xt rfl) ?_ | refine o_lenn (xt rfl) ?_ | refine o_pick (b := true) (xt rfl) xc ?_ | refine o_pick (b := true) (xt rfl) (xt rfl) ?_ | refine o_pick (b := false) (xt rfl) xc ?_ | refine o_pick (b := false) (xt rfl) (xt rfl) ?_ | refine o_not (xt rfl) ?_ | refine o_extract (xt rfl) rfl ?_ | refine o_box xc rfl fun _ => ?_ | refine o_build .nil rfl ?_ | refine o_build (.cons xc .nil) rfl ?_) | refine g_if rfl ?_ | refine g_skip rfl rfl rfl ?_ | refine g_skipn rfl rfl ?_ | refine g_end ?_ | (refine g_do0 ?_; refine o_store (xt rfl) (xt rfl) (by first | exact .here | exact .there .here | exact .there (.there .here)) ⟨rfl, (Nat.le_of_ble_eq_true rfl)⟩ rfl rfl ?_) | refine w_rs ?_ | refine w_assoc ?_ | refine w_reg ?_ | refine w_cond (xt rfl) ?_ | refine w_skip ?_ | refine w_seq ?_ | refine w_ret ?_ | refine w_exit ?_)
  refine g_do rfl (o_lookup (xt rfl) (xt rfl) hf rfl (find_enc b L) ?_)
  have hg : ∃ z : Int, ((Option.map (AV.int .i64 ·) (getL L b)).getD (AV.int .i64 0)) = .int .i64 z ∧ (getL L b).getD 0 = z := by
    cases getL L b with
    | none => exact ⟨0, rfl, rfl⟩
    | some z => exact ⟨z, rfl, rfl⟩
  obtain ⟨z, h1, h2⟩ := hg
  rw [h2] at h
  rw [h1]
  refine g_do rfl (o_gtr (xt rfl) xc (fun h3 => ?_) (fun h3 => ?_))
  · repeat (first | (refine g_do rfl ?_; first | refine o_move (xt rfl) ?_ | refine o_move xc ?_ | refine o_faddr (xt rfl) ?_ | refine o_nil (xt rfl) ?_ | refine o_load (xt rfl) (by repeat (first | exact .here | refine .there ?_)) rfl ?_ | refine o_lens (xt rfl) ?_ | refine o_lenr (xt rfl) ?_ | refine o_lenn (xt rfl) ?_ | refine o_pick (b := true) (xt rfl) xc ?_ | refine o_pick (b := true) (xt rfl) (xt rfl) ?_ | refine o_pick (b := false) (xt rfl) xc ?_ | refine o_pick (b := false) (xt rfl) (xt rfl) ?_ | refine o_not (xt rfl) ?_ | refine o_extract (xt rfl) rfl ?_ | refine o_box xc rfl fun _ => ?_ | refine o_build .nil rfl ?_ | refine o_build (.cons xc .nil) rfl ?_) | refine g_if rfl ?_ | refine g_skip rfl rfl rfl ?_ | refine g_skipn rfl rfl ?_ | refine g_end ?_ | (refine g_do0 ?_; refine o_store (xt rfl) (xt rfl) (by first | exact .here | exact .there .here | exact .there (.there .here)) ⟨rfl, (Nat.le_of_ble_eq_true rfl)⟩ rfl rfl ?_) | refine w_rs ?_ | refine w_assoc ?_ | refine w_reg ?_ | refine w_cond (xt rfl) ?_ | refine w_skip ?_ | refine w_seq ?_ | refine w_ret ?_ | refine w_exit ?_)
    rw [decide_eq_true (by omega)] at h
    exact ⟨trivial, _, fs, .one (.tmp rfl), .refl _, h⟩
  · repeat (first | (refine g_do rfl ?_; first | refine o_move (xt rfl) ?_ | refine o_move xc ?_ | refine o_faddr (xt rfl) ?_ | refine o_nil (xt rfl) ?_ | refine o_load (xt rfl) (by repeat (first | exact .here | refine .there ?_)) rfl ?_ | refine o_lens (xt rfl) ?_ | refine o_lenr (xt rfl) ?_ | refine o_lenn (xt rfl) ?_ | refine o_pick (b := true) (xt rfl) xc ?_ | refine o_pick (b := true) (xt rfl) (xt rfl) ?_ | refine o_pick (b := false) (xt rfl) xc ?_ | refine o_pick (b := false) (xt rfl) (xt rfl) ?_ | refine o_not (xt rfl) ?_ | refine o_extract (xt rfl) rfl ?_ | refine o_box xc rfl fun _ => ?_ | refine o_build .nil rfl ?_ | refine o_build (.cons xc .nil) rfl ?_) | refine g_if rfl ?_ | refine g_skip rfl rfl rfl ?_ | refine g_skipn rfl rfl ?_ | refine g_end ?_ | (refine g_do0 ?_; refine o_store (xt rfl) (xt rfl) (by first | exact .here | exact .there .here | exact .there (.there .here)) ⟨rfl, (Nat.le_of_ble_eq_true rfl)⟩ rfl rfl ?_) | refine w_rs ?_ | refine w_assoc ?_ | refine w_reg ?_ | refine w_cond (xt rfl) ?_ | refine w_skip ?_ | refine w_seq ?_ | refine w_ret ?_ | refine w_exit ?_)
    rw [decide_eq_false (by omega)] at h
    exact ⟨trivial, _, fs, .one (.tmp rfl), .refl _, h⟩
def Let3 (b : UInt8) : Prop := b = 101 ∨ b = 102 ∨ b = 117
theorem let3_idx {b : UInt8} (h : Let3 b) : 0 ≤ idxOf b.toNat [101, 102, 117] 0 := by
  rcases h with rfl | rfl | rfl <;> decide

/-! An environment. -/
structure EI (fs : List Fact) (e m f : Nat) (es : List (AV × AV × Nat)) (c : Nat) (ks : List ByteArray) (av : AV) (fl : List (UInt8 × Int × Nat)) (cf : Nat) (A : List ByteArray) : Prop where
  fe : Has fs (.blk e (.cells [.map m, av, .map f]))
  fm : Has fs (.blk m (.map es c))
  ff : Has fs (.blk f (.map (fl.map encF) cf))
  ok : MapV es c ks
  kl : ks.length ≤ 100
  row : RV fs 1 av (A.map .str) A.length
  nil : A.length = 0 → av = .nilrow
  few : A.length ≤ 100
  em : e ≠ m
  ef : e ≠ f
  mf : m ≠ f
def EInv (fs : List Fact) (e m f : Nat) (D : List PV) (A : List ByteArray) (G : UInt8 → Bool) : Prop := ∃ es c ks av fl cf, EI fs e m f es c ks av fl cf A ∧ varsP es ks = D ∧ ∀ b, G b = decide (0 < (getL fl b).getD 0)
theorem EInv.fr {e m f : Nat} {D : List PV} {A : List ByteArray} {G : UInt8 → Bool} {ks : List (Nat × Nat)} (h : EInv fs e m f D A G) (g : Fr ks fs fs') (hk : ∀ x ∈ ks, x.1 = 0 ∧ x.2 ≠ e ∧ x.2 ≠ m ∧ x.2 ≠ f) : EInv fs' e m f D A G := by
  obtain ⟨es, c, ks, av, fl, cf, hE, hD, hG⟩ := h
  refine ⟨es, c, ks, av, fl, cf, ⟨g _ hE.fe fun hm => (hk _ hm).2.1 rfl, g _ hE.fm fun hm => (hk _ hm).2.2.1 rfl, g _ hE.ff fun hm => (hk _ hm).2.2.2 rfl, hE.ok, hE.kl, hE.row.fr g fun x hx => (hk x hx).1, hE.nil, hE.few, hE.em, hE.ef, hE.mf⟩, hD, hG⟩
theorem varsP_len (es : List (AV × AV × Nat)) (ks : List ByteArray) : (varsP es ks).length = ks.length := by
  unfold varsP
  rw [List.length_map]; exact (names_perm ks).length_eq
def SetOk (D : List PV) (k v : ByteArray) : Prop := Fits v ∧ (getD2 D k ≠ none ∨ D.length < 100)
open Classical in
noncomputable def setN (D : List PV) (k v : ByteArray) : Int := if NameOk k then (if SetOk D k v then 0 else 15) else 1
open Classical in
noncomputable def setD (D : List PV) (k v : ByteArray) : List PV := if NameOk k then (if SetOk D k v then insD D k v else D) else D
theorem set_no {D : List PV} {k v : ByteArray} (h : ¬ NameOk k) : setN D k v = 1 ∧ setD D k v = D := ⟨if_neg h, if_neg h⟩
theorem set_bad {D : List PV} {k v : ByteArray} (h : NameOk k) (h2 : ¬ SetOk D k v) : setN D k v = 15 ∧ setD D k v = D := by
  unfold setN setD
  rw [if_pos h, if_pos h, if_neg h2, if_neg h2]; exact ⟨rfl, rfl⟩
theorem set_good {D : List PV} {k v : ByteArray} (h : NameOk k) (h2 : SetOk D k v) : setN D k v = 0 ∧ setD D k v = insD D k v := by
  unfold setN setD
  rw [if_pos h, if_pos h, if_pos h2, if_pos h2]; exact ⟨rfl, rfl⟩
theorem setA_len {k v : AV} : ∀ {es : List (AV × AV × Nat)}, (setA 2 k v es).length = es.length
  | [] => rfl
  | x :: r => by
    unfold setA
    split
    · rfl
    · rw [List.length_cons, List.length_cons, setA_len]
theorem up_len {es : List (AV × AV × Nat)} {c : Nat} {ks ks' : List ByteArray} {k v : ByteArray} (h : MapV es c ks) (h' : MapV (upE es c k v).1 (upE es c k v).2 ks') (hk : k ∈ ks) : ks'.length = ks.length := by
  rw [← keysOf_len h'.ok.keys, ← keysOf_len h.ok.keys]
  unfold upE
  rcases h.look k with ⟨_, u, hu⟩ | ⟨h1, _⟩
  · rw [hu]; exact setA_len
  · exact absurd hk h1
theorem mem_get {es : List (AV × AV × Nat)} {c : Nat} {ks : List ByteArray} (h : MapV es c ks) (k : ByteArray) : (k ∈ ks ↔ getD2 (varsP es ks) k ≠ none) := by
  rw [vars_get h]
  unfold lookE
  rcases h.look k with ⟨h1, u, hu⟩ | ⟨h1, hu⟩
  · rw [hu]; exact ⟨fun _ h => (by cases h), fun _ => h1⟩
  · rw [hu]; exact ⟨fun h => absurd h h1, fun h => absurd rfl h⟩
theorem eset_ev {e m f : Nat} {D : List PV} {A : List ByteArray} {G : UInt8 → Bool} {k v : ByteArray} (hE : EInv fs e m f D A G) (hk : k.size ≤ 1000000000) {K : KK} (h : ∀ fs', Fr [(0, m)] fs fs' → EInv fs' e m f (setD D k v) A G → K (.int .i64 (setN D k v)) fs') : Ev sW ftab 44 [.ptr e 0, .str k, .str v] fs K := by
  have hE0 := hE
  obtain ⟨es, c, ks, av, fl, cf, I, hD, hG⟩ := hE
  have he := I.fe
  have hm := I.fm
  have hM := I.ok
  have hlen := keysOf_len hM.ok.keys
  have hDl : D.length = ks.length := by rw [← hD]; exact varsP_len es ks
  have hkD := mem_get hM k
  rw [hD] at hkD
  have same : ∀ n : Int, setN D k v = n → setD D k v = D → K (.int .i64 n) fs := fun n h1 h2 => by
    have := h fs .refl (by rw [h2]; exact hE0)
    rw [h1] at this; exact this
  obtain ⟨fsP, hP⟩ := hm.put (.blk m (.map (upE es c k v).1 (upE es c k v).2))
  have good : NameOk k → SetOk D k v → K (.int .i64 0) fsP := fun h1 h2 => by
    have h3 := set_good h1 h2
    have hfr : Fr [(0, m)] fs fsP := Fr.put hP
    obtain ⟨ks', k1, k2, k3⟩ := hM.up (k := k) (v := v) hk (by have := I.kl; omega)
    have hkl : ks'.length ≤ 100 := by
      rcases h2.2 with h4 | h4
      · rw [up_len hM k1 (hkD.2 h4)]; exact I.kl
      · omega
    have := h fsP hfr ⟨_, _, ks', av, fl, cf, ⟨hfr _ he (bk I.em), hP.hasNew, hfr _ I.ff (bk (Ne.symm I.mf)), k1, hkl, I.row.fr hfr zk, I.nil, I.few, I.em, I.ef, I.mf⟩, by rw [h3.2, ← hD]; exact vars_ins hM k1, hG⟩
    rw [h3.1] at this; exact this
  refine ev_fn (nt := 42) (kb := kb44) (kr := kr44) rfl rfl (Nat.le_of_ble_eq_true rfl) ?_
  refine cgo ?_
  refine g_do rfl (o_load (xt rfl) he rfl ?_)
  refine cgo ?_
  unfold upE at hP
  rcases hM.look k with ⟨hk2, u, hu⟩ | ⟨hk2, hu⟩
  · rw [hu] at hP
    refine g_do rfl (o_lookup (xt rfl) (xt rfl) hm rfl hu ?_)
    refine cgo ?_
    refine w_block ?_
    refine cgo ?_
    refine g_do rfl (o_call (.cons (xt rfl) .nil) (name_ev hk (fun hn => ?_) (fun hn => ?_)))
    · refine cgo ?_
      refine g_do rfl (o_call (.cons (xt rfl) .nil) (efits_ev (fun hf => ?_) (fun hf => ?_)))
      · refine cgo ?_
        refine g_do rfl (o_load (xt rfl) he rfl ?_)
        refine cgo ?_
        refine g_do0 (o_set (xt rfl) (xt rfl) (xt rfl) rfl hu hP ?_)
        refine cgo ?_
        exact ⟨trivial, _, _, .one (.tmp rfl), .refl _, good hn ⟨hf, Or.inl (hkD.1 hk2)⟩⟩
      · refine cgo ?_
        have := set_bad (D := D) hn fun h => hf h.1
        exact ⟨trivial, _, _, .one (.tmp rfl), .refl _, same 15 this.1 this.2⟩
    · refine cgo ?_
      have := set_no (D := D) (v := v) hn
      exact ⟨trivial, _, _, .one (.tmp rfl), .refl _, same 1 this.1 this.2⟩
  · rw [hu] at hP
    refine g_do rfl (o_lookup (xt rfl) (xt rfl) hm rfl hu ?_)
    refine cgo ?_
    refine w_block ?_
    refine cgo ?_
    refine g_do rfl (o_call (.cons (xt rfl) .nil) (name_ev hk (fun hn => ?_) (fun hn => ?_)))
    · refine cgo ?_
      refine g_do rfl (o_call (.cons (xt rfl) .nil) (efits_ev (fun hf => ?_) (fun hf => ?_)))
      · refine cgo ?_
        refine g_do rfl (o_load (xt rfl) he rfl ?_)
        refine g_if rfl ?_
        refine g_do rfl (o_lenm (xt rfl) hm ?_)
        refine cgo ?_
        refine g_do rfl (o_geq (xt rfl) xc (fun h1 => ?_) (fun h1 => ?_))
        · refine cgo ?_
          have := set_bad (D := D) (v := v) hn fun h => h.2.elim (fun h => hk2 (hkD.2 h)) (fun h => by omega)
          exact ⟨trivial, _, _, .one (.tmp rfl), .refl _, same 15 this.1 this.2⟩
        · refine cgo ?_
          refine g_do rfl (o_load (xt rfl) he rfl ?_)
          refine cgo ?_
          refine g_do0 (o_setn (xt rfl) (xt rfl) (xt rfl) rfl hu hP ?_)
          refine cgo ?_
          exact ⟨trivial, _, _, .one (.tmp rfl), .refl _, good hn ⟨hf, Or.inr (by omega)⟩⟩
      · refine cgo ?_
        have := set_bad (D := D) hn fun h => hf h.1
        exact ⟨trivial, _, _, .one (.tmp rfl), .refl _, same 15 this.1 this.2⟩
    · refine cgo ?_
      have := set_no (D := D) (v := v) hn
      exact ⟨trivial, _, _, .one (.tmp rfl), .refl _, same 1 this.1 this.2⟩
open Classical in
noncomputable def nameB (k : ByteArray) : Bool := decide (NameOk k)
theorem nameB_t {k : ByteArray} (h : NameOk k) : nameB k = true := by unfold nameB; simp [h]
theorem nameB_f {k : ByteArray} (h : ¬ NameOk k) : nameB k = false := by unfold nameB; simp [h]
theorem eunset_ev {e m f : Nat} {D : List PV} {A : List ByteArray} {G : UInt8 → Bool} {k : ByteArray} (hE : EInv fs e m f D A G) (hk : k.size ≤ 1000000000) {K : KK} (h : ∀ fs', Fr [(0, m)] fs fs' → EInv fs' e m f (remD D k) A G → K (.bool (nameB k)) fs') : Ev sW ftab 45 [.ptr e 0, .str k] fs K := by
  obtain ⟨es, c, ks, av, fl, cf, I, hD, hG⟩ := hE
  obtain ⟨fsP, hP⟩ := I.fm.put (.blk m (.map (delA 2 (.str k) es) c))
  have hfr : Fr [(0, m)] fs fsP := Fr.put hP
  obtain ⟨ks', k1, k2, k3, _⟩ := I.ok.del k
  have h := h fsP hfr ⟨_, _, ks', av, fl, cf, ⟨hfr _ I.fe (bk I.em), hP.hasNew, hfr _ I.ff (bk (Ne.symm I.mf)), k1, by have := I.kl; omega, I.row.fr hfr zk, I.nil, I.few, I.em, I.ef, I.mf⟩, by rw [← hD]; exact vars_rem I.ok k1, hG⟩
  exact unset_ev hk I.fe I.ok hP (fun hn => by rw [nameB_t hn] at h; exact h) (fun hn => by rw [nameB_f hn] at h; exact h)
/-! A name's value, or an arg. -/
def getR (D : List PV) (A : List ByteArray) (k : ByteArray) : ByteArray × Bool := match numM k with
  | (n, true) => getT A n
  | (_, false) => ((getD2 D k).getD ⟨#[]⟩, (getD2 D k).isSome)
theorem numL_le : ∀ (l : List UInt8) (a n : Nat), a ≤ 4611686018427387904 → numL l a = some n → n ≤ 4611686018427387904
  | [], a, n, ha, h => by obtain rfl := Option.some.inj h; exact ha
  | b :: l, a, n, ha, h => by
    simp only [numL] at h
    split at h
    · cases h
    · split at h
      · cases h
      · exact numL_le l _ n (by omega) h
theorem numM_le (k : ByteArray) : (numM k).1 ≤ 4611686018427387904 := by
  unfold numM
  split
  · exact Nat.zero_le _
  · split
    · rename_i n hn; exact numL_le _ 0 n (Nat.zero_le _) hn
    · exact Nat.zero_le _
theorem eget_ev {e m f : Nat} {D : List PV} {A : List ByteArray} {G : UInt8 → Bool} {k : ByteArray} (hE : EInv fs e m f D A G) (hk : k.size ≤ 1000000000) {K : KK} (h : K (.tup [.str (getR D A k).1, .bool (getR D A k).2]) fs) : Ev sW ftab 14 [.ptr e 0, .str k] fs K := by
  obtain ⟨es, c, ks, av, fl, cf, I, hD, hG⟩ := hE
  have hle := numM_le k
  unfold getR at h
  obtain ⟨n, ok, hn⟩ : ∃ n ok, numM k = (n, ok) := ⟨_, _, rfl⟩
  rw [hn] at h hle
  cases ok with
  | false =>
    have hv := vars_get I.ok k
    rw [hD] at hv
    rw [hv] at h
    rcases I.ok.look k with ⟨_, u, hu⟩ | ⟨_, hu⟩
    · refine getv_ev hn hk I.fe I.fm hu ?_
      simp only [lookE, hu] at h; exact h
    · refine getv_ev hn hk I.fe I.fm hu ?_
      simp only [lookE, hu] at h; exact h
  | true =>
    have he := I.fe
    have hv := I.row
    refine ev_fn (nt := 46) (kb := kb14) (kr := kr14) rfl rfl (Nat.le_of_ble_eq_true rfl) ?_
    unfold getT at h
    have hx : apart [.map m, av, .map f] 1 none = some av := rfl
    simp only at h hle
    refine cgo ?_
    refine g_do rfl (o_call (.cons (xt rfl) .nil) (number_ev rfl rfl hk ?_))
    rw [hn]
    refine cgo ?_
    refine g_do rfl (o_lss (xt rfl) xc (fun h1 => ?_) (fun h1 => ?_))
    · refine cgo ?_
      rw [if_neg (by omega)] at h
      exact ⟨trivial, _, fs, .tup (.cons (.tmp rfl) (.cons (.tmp rfl) .nil)), .refl _, h⟩
    refine rgo ?_
    try refine g_if rfl ?_
    refine g_do rfl (o_load (v := av) (xt rfl) he hx ?_)
    try refine g_if rfl ?_
    refine g_do rfl (o_len (xt rfl) hv ?_)
    try refine g_if rfl ?_
    refine g_do rfl (o_gtr (xt rfl) (xt rfl) (fun h2 => ?_) (fun h2 => ?_))
    · refine cgo ?_
      rw [if_neg (by omega)] at h
      exact ⟨trivial, _, fs, .tup (.cons (.tmp rfl) (.cons (.tmp rfl) .nil)), .refl _, h⟩
    · refine cgo ?_
      refine g_do rfl (o_load (v := av) (xt rfl) he hx ?_)
      obtain ⟨sr, rfl, r1, r2⟩ := hv.some (by omega)
      refine g_do rfl (o_move (xt rfl) ?_)
      refine g_do rfl (o_sub (xt rfl) xc (by constructor <;> omega) ?_)
      refine g_do rfl (o_iaddr (xt rfl) (xt rfl) ⟨by omega, by omega⟩ r2 ?_)
      refine g_do rfl (o_loadr (v := .str (A.getD (n - 1) ⟨#[]⟩)) (xt rfl) r1 (by
        have e1 : (((n : Int) - 1).toNat * 1) = n - 1 := by omega
        have e2 : A[n - 1]? = some (A.getD (n - 1) ⟨#[]⟩) := by
          rw [List.getD_eq_getElem?_getD, List.getElem?_eq_getElem (by omega)]; rfl
        simp only [apart, e1, List.getElem?_map, e2]; rfl) ?_)
      refine cgo ?_
      rw [if_pos (by omega)] at h
      exact ⟨trivial, _, fs, .tup (.cons (.tmp rfl) (.cons (.tmp rfl) .nil)), .refl _, h⟩
def ifsR (D : List PV) : ByteArray := (getD2 D ifsT).getD blanksT
theorem eifs_ev {e m f : Nat} {D : List PV} {A : List ByteArray} {G : UInt8 → Bool} (hE : EInv fs e m f D A G) {K : KK} (h : K (.str (ifsR D)) fs) : Ev sW ftab 50 [.ptr e 0] fs K := by
  obtain ⟨es, c, ks, av, fl, cf, I, hD, hG⟩ := hE
  have hv := vars_get I.ok ifsT
  rw [hD] at hv
  unfold ifsR at h
  rw [hv] at h
  refine ev_fn (nt := 16) (kb := kb50) (kr := kr50) rfl rfl (Nat.le_of_ble_eq_true rfl) ?_
  have he := I.fe
  have hm := I.fm
  refine cgo ?_
  refine g_do rfl (o_load (xt rfl) he rfl ?_)
  refine cgo ?_
  rcases I.ok.look ifsT with ⟨_, u, hu⟩ | ⟨_, hu⟩
  · refine g_do rfl (o_lookup (xt rfl) xc hm rfl hu ?_)
    refine cgo ?_
    simp only [lookE, hu] at h
    exact ⟨trivial, _, fs, .one (.tmp rfl), .refl _, h⟩
  · refine g_do rfl (o_lookup (xt rfl) xc hm rfl hu ?_)
    refine cgo ?_
    simp only [lookE, hu] at h
    exact ⟨trivial, _, fs, .one (.tmp rfl), .refl _, h⟩
theorem eflag_ev {e m f : Nat} {D : List PV} {A : List ByteArray} {G : UInt8 → Bool} {b : UInt8} (hE : EInv fs e m f D A G) {K : KK} (h : K (.bool (G b)) fs) : Ev sW ftab 13 [.ptr e 0, .int .u8 b.toNat] fs K := by
  obtain ⟨es, c, ks, av, fl, cf, I, hD, hG⟩ := hE
  refine flag_ev I.fe I.ff ?_
  rw [← hG]; exact h
def setG (G : UInt8 → Bool) (b : UInt8) (on : Bool) : UInt8 → Bool := fun d => if d = b then on else G d
def let3B (b : UInt8) : Bool := decide (b = 101) || decide (b = 102) || decide (b = 117)
theorem esetflag_ev {e m f : Nat} {D : List PV} {A : List ByteArray} {G : UInt8 → Bool} {b : UInt8} {on : Bool} (hE : EInv fs e m f D A G) {K : KK} (h : ∀ fs', Fr [(0, f)] fs fs' → EInv fs' e m f D A (if let3B b then setG G b on else G) → K (.bool (let3B b)) fs') : Ev sW ftab 52 [.ptr e 0, .int .u8 b.toNat, .bool on] fs K := by
  have hE0 := hE
  obtain ⟨es, c, ks, av, fl, cf, I, hD, hG⟩ := hE
  have he := I.fe
  have hf := I.ff
  refine ev_fn (nt := 21) (kb := kb52) (kr := kr52) rfl rfl (Nat.le_of_ble_eq_true rfl) ?_
  refine cgo ?_
  refine g_do rfl (o_call (.cons xc (.cons (xt rfl) .nil)) (ix3_ev (b := b.toNat) (by have := b.toNat_lt; omega) ?_))
  by_cases hb : let3B b = true
  · rw [hb] at h
    have hl : Let3 b := by
      simp only [let3B, Bool.or_eq_true, decide_eq_true_eq] at hb
      rcases hb with (hb | hb) | hb
      · exact Or.inl hb
      · exact Or.inr (Or.inl hb)
      · exact Or.inr (Or.inr hb)
    refine g_do rfl (o_lss (xt rfl) xc (fun h1 => absurd h1 (by have := let3_idx hl; exact Int.not_lt.2 this)) (fun _ => ?_))
    refine cgo ?_
    refine g_do rfl (o_load (xt rfl) he rfl ?_)
    refine cgo ?_
    obtain ⟨fs1, hP⟩ := hf.put (.blk f (.map ((putL fl cf b 0).1.map encF) (putL fl cf b 0).2))
    refine g_do0 (o_putf (xt rfl) (xt rfl) xc hP ?_)
    refine cgo ?_
    have hfr : Fr [(0, f)] fs fs1 := Fr.put hP
    have he1 := hfr _ he (bk I.ef)
    have inv : ∀ (fs2 : List Fact) (fl2 : List (UInt8 × Int × Nat)) (c2 : Nat), Fr [(0, f)] fs fs2 → Has fs2 (.blk f (.map (fl2.map encF) c2)) → (∀ d, setG G b on d = decide (0 < (getL fl2 d).getD 0)) → EInv fs2 e m f D A (setG G b on) := fun fs2 fl2 c2 g1 g2 g3 =>
      ⟨es, c, ks, av, fl2, c2, ⟨g1 _ he (bk I.ef), g1 _ I.fm (bk I.mf), g2, I.ok, I.kl, I.row.fr g1 zk, I.nil, I.few, I.em, I.ef, I.mf⟩, hD, g3⟩
    cases on with
    | false =>
      refine cgo ?_
      refine ⟨trivial, _, _, .one (.tmp rfl), .refl _, h _ hfr (inv _ _ _ hfr hP.hasNew fun d => ?_)⟩
      rw [getL_put]
      unfold setG
      by_cases hd : d = b
      · rw [if_pos hd, if_pos hd]; rfl
      · rw [if_neg hd, if_neg hd]; exact hG d
    | true =>
      refine cgo ?_
      refine g_do rfl (o_load (xt rfl) he1 rfl ?_)
      refine cgo ?_
      obtain ⟨fs2, hP2⟩ := hP.hasNew.put (.blk f (.map ((putL (putL fl cf b 0).1 (putL fl cf b 0).2 b 1).1.map encF) (putL (putL fl cf b 0).1 (putL fl cf b 0).2 b 1).2))
      refine g_do0 (o_putf (xt rfl) (xt rfl) xc hP2 ?_)
      refine cgo ?_
      have hfr2 : Fr [(0, f)] fs fs2 := hfr.trans (Fr.put hP2)
      refine ⟨trivial, _, _, .one (.tmp rfl), .refl _, h _ hfr2 (inv _ _ _ hfr2 hP2.hasNew fun d => ?_)⟩
      rw [getL_put, getL_put]
      unfold setG
      by_cases hd : d = b
      · rw [if_pos hd, if_pos hd]; rfl
      · rw [if_neg hd, if_neg hd, if_neg hd]; exact hG d
  · have hb2 : let3B b = false := by simpa using hb
    rw [hb2] at h
    have hneg : idxOf b.toNat [101, 102, 117] 0 = -1 := by
      have h3 : b ≠ 101 ∧ b ≠ 102 ∧ b ≠ 117 := by
        simp only [let3B, Bool.or_eq_false_iff, decide_eq_false_iff_not] at hb2
        exact ⟨hb2.1.1, hb2.1.2, hb2.2⟩
      rcases idxOf_spec b.toNat [101, 102, 117] 0 with ⟨h1, _⟩ | ⟨k, _, h2, _, x, h4, h5⟩
      · exact h1
      · have := List.mem_of_getElem? h4
        have hx : x = b := UInt8.toNat_inj.1 h5
        subst hx
        simp only [List.mem_cons, List.not_mem_nil, or_false] at this
        rcases this with h | h | h
        · exact absurd h h3.1
        · exact absurd h h3.2.1
        · exact absurd h h3.2.2
    refine g_do rfl (o_lss (xt rfl) xc (fun _ => ?_) (fun h1 => absurd (show idxOf b.toNat [101, 102, 117] 0 < 0 by rw [hneg]; decide) h1))
    refine cgo ?_
    exact ⟨trivial, _, _, .one (.tmp rfl), .refl _, h fs .refl hE0⟩
end Go.Proofs.Ytfmhfepcohbbmaa.EvA
