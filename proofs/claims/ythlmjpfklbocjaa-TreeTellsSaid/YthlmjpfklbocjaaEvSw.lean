/- Walks: a map's keys, sorted; maps whose keys are texts. -/
import Derived.Test.YthlmjpfklbocjaaEvSo
import Derived.Test.YthlmjpfklbocjaaEvLd
namespace Go.Proofs.Ythlmjpfklbocjaa.EvA
set_option linter.unusedVariables false
variable {fs : List Fact} {S : Sum} {F : FuncId → Option AF}
theorem sorted_ev {f K1 : FuncId} {i j c : Nat} {es : List (AV × AV × Nat)} {ks : List ByteArray} (hS : S f = some (sortS K1)) (hi : Has fs (.blk i (.cells [.map j]))) (hj : Has fs (.blk j (.map es c))) (hok : MapOk es c ks) {K : KK} (h : K (rowK ks) fs) : Ev S F f [.fn K1 [.ptr i 0]] fs K :=
  ev_sum hS fun h0 h2 => ⟨_, h0, fs, h2, h, by
    unfold sortS
    simp only [if_true, h2.get hi, h2.get hj, hok.keys]
    rw [if_pos hok]⟩
theorem mapOk_nil : MapOk [] 0 [] := ⟨rfl, by simp, by simp, by simp, by simp, by simp⟩
theorem keysOf_app : ∀ {es : List (AV × AV × Nat)} {ks : List ByteArray} {s : ByteArray} {v : AV} {n : Nat}, keysOf es = some ks → keysOf (es ++ [(.str s, v, n)]) = some (ks ++ [s])
  | [], ks, s, v, n, h => by
    simp only [keysOf, Option.some.injEq] at h; subst h
    rfl
  | (a, b, m) :: r, ks, s, v, n, h => by
    unfold keysOf at h
    split at h
    · rename_i e; cases e
    · rename_i t q1 q2 q3 e
      obtain ⟨ks', hk, rfl⟩ := Option.map_eq_some_iff.1 h
      simp only [List.cons.injEq, Prod.mk.injEq] at e
      obtain ⟨⟨rfl, _, _⟩, rfl⟩ := e
      show (keysOf (r ++ [(.str s, v, n)])).map (t :: ·) = _
      rw [keysOf_app hk]; rfl
    · cases h
theorem MapOk.app {es : List (AV × AV × Nat)} {c : Nat} {ks : List ByteArray} (h : MapOk es c ks) {s : ByteArray} {v : AV} (hn : s ∉ ks) (hs : s.size ≤ 1000000000) (hf : ks.length < 1000000) : MapOk (es ++ [(.str s, v, c)]) (c + 1) (ks ++ [s]) := by
  refine ⟨keysOf_app h.keys, by simp; omega, fun t ht => ?_, fun x hx => ?_, ?_, ?_⟩
  · rcases List.mem_append.1 ht with ht | ht
    · exact h.short t ht
    · obtain rfl : t = s := by simpa using ht
      exact hs
  · rcases List.mem_append.1 hx with hx | hx
    · exact Nat.lt_succ_of_lt (h.born x hx)
    · obtain rfl : x = _ := by simpa using hx
      exact Nat.lt_succ_self c
  · rw [List.map_append, List.nodup_append]
    refine ⟨h.once, by simp, fun a ha b hb => ?_⟩
    obtain ⟨x, hx, rfl⟩ := List.mem_map.1 ha
    have := h.born x hx
    obtain rfl : b = c := by simpa using hb
    omega
  · rw [List.map_append, List.nodup_append]
    refine ⟨h.apart, by simp, fun a ha b hb => ?_⟩
    obtain ⟨x, hx, rfl⟩ := List.mem_map.1 ha
    have hb : b = s.data.toList := by simpa using hb
    intro e
    refine hn ?_
    have : x = s := ByteArray.ext (Array.toList_inj.1 (e.trans hb))
    rw [← this]; exact hx
theorem keysOf_cons {x : AV × AV × Nat} {r : List (AV × AV × Nat)} {ks : List ByteArray} (h : keysOf (x :: r) = some ks) : ∃ s v n ks', x = (.str s, v, n) ∧ keysOf r = some ks' ∧ ks = s :: ks' := by
  obtain ⟨a, b, m⟩ := x
  unfold keysOf at h
  split at h
  · rename_i e; cases e
  · rename_i t q1 q2 q3 e
    obtain ⟨ks', hk, rfl⟩ := Option.map_eq_some_iff.1 h
    simp only [List.cons.injEq, Prod.mk.injEq] at e
    obtain ⟨⟨rfl, rfl, rfl⟩, rfl⟩ := e
    exact ⟨_, _, _, ks', rfl, hk, rfl⟩
  · cases h
theorem find_out {s : ByteArray} : ∀ {es : List (AV × AV × Nat)} {ks : List ByteArray}, keysOf es = some ks → s ∉ ks → findA 2 (.str s) es = some none
  | [], ks, h, hn => rfl
  | x :: r, ks, h, hn => by
    obtain ⟨t, v, n, ks', rfl, hk, rfl⟩ := keysOf_cons h
    have h1 : ¬ s = t := fun e => hn (by rw [e]; exact List.mem_cons_self ..)
    unfold findA
    rw [eq_str, decide_eq_false h1]
    exact find_out hk fun h => hn (List.mem_cons_of_mem _ h)
theorem find_in {s : ByteArray} : ∀ {es : List (AV × AV × Nat)} {ks : List ByteArray}, keysOf es = some ks → s ∈ ks → ∃ v, findA 2 (.str s) es = some (some v) ∧ v ∈ es.map (·.2.1)
  | [], ks, h, hn => by simp only [keysOf, Option.some.injEq] at h; subst h; cases hn
  | x :: r, ks, h, hn => by
    obtain ⟨t, v, n, ks', rfl, hk, rfl⟩ := keysOf_cons h
    unfold findA
    rw [eq_str]
    by_cases h1 : s = t
    · rw [decide_eq_true h1]; exact ⟨v, rfl, List.mem_cons_self ..⟩
    · rw [decide_eq_false h1]
      obtain ⟨u, h2, h3⟩ := find_in hk ((List.mem_cons.1 hn).resolve_left h1)
      exact ⟨u, h2, List.mem_cons_of_mem _ h3⟩
theorem set_keys {s : ByteArray} {v : AV} : ∀ {es : List (AV × AV × Nat)} {ks : List ByteArray}, keysOf es = some ks → keysOf (setA 2 (.str s) v es) = some ks ∧ (setA 2 (.str s) v es).map (·.2.2) = es.map (·.2.2)
  | [], ks, h => ⟨h, rfl⟩
  | x :: r, ks, h => by
    obtain ⟨t, u, n, ks', rfl, hk, rfl⟩ := keysOf_cons h
    unfold setA
    rw [eq_str]
    by_cases h1 : s = t
    · subst h1
      rw [decide_eq_true rfl, if_pos rfl]
      exact ⟨by show (keysOf r).map (s :: ·) = _; rw [hk]; rfl, rfl⟩
    · rw [decide_eq_false h1, if_neg (by simp)]
      obtain ⟨h2, h3⟩ := set_keys (s := s) (v := v) hk
      exact ⟨by show (keysOf (setA 2 (.str s) v r)).map (t :: ·) = _; rw [h2]; rfl, by simp only [List.map_cons, h3]⟩
theorem MapOk.set {es : List (AV × AV × Nat)} {c : Nat} {ks : List ByteArray} (h : MapOk es c ks) {s : ByteArray} {v : AV} : MapOk (setA 2 (.str s) v es) c ks := by
  obtain ⟨h1, h2⟩ := set_keys (s := s) (v := v) h.keys
  refine ⟨h1, h.few, h.short, fun x hx => ?_, by rw [h2]; exact h.once, h.apart⟩
  have : x.2.2 ∈ (setA 2 (.str s) v es).map (·.2.2) := List.mem_map.2 ⟨x, hx, rfl⟩
  rw [h2] at this
  obtain ⟨y, hy, e⟩ := List.mem_map.1 this
  rw [← e]; exact h.born y hy
end Go.Proofs.Ythlmjpfklbocjaa.EvA
