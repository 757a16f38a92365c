/- Bytes and rounds: small facts that the plain laws of this seat share. -/
import Derived.Test.YthdndghhdiadiaaDoorWWords
import Derived.Test.YthdndghhdiadiaaDoorWMore
import Derived.Lib.Bytealg
import Derived.Lib.Strings
import Derived.Laws.BitsLemmas
namespace Go.Proofs.YthdndghhdiadiaaDoor.B
open Go.RowKit Go.Proofs.YthdndghhdiadiaaDoorW.PrintWords Go.Proofs.YthdndghhdiadiaaDoorW.PrintLast Go.Proofs.YthdndghhdiadiaaDoorW.PrintMore
set_option linter.unusedVariables false
set_option linter.unusedSimpArgs false

/-- A text's bytes as a list. -/
def L (s : ByteArray) : List UInt8 := s.data.toList
theorem tl (s : ByteArray) : s.toList = L s := ByteArray.toList_eq s
theorem L_def (s : ByteArray) : s.data.toList = L s := rfl
theorem sz (s : ByteArray) : s.size = (L s).length := by rw [L, Array.length_toList]; rfl
theorem L_inj {s t : ByteArray} (h : L s = L t) : s = t := by
  cases s; cases t; simp [L] at h; rw [h]
theorem L_iff {s t : ByteArray} : L s = L t ↔ s = t := ⟨L_inj, fun h => by rw [h]⟩
theorem L_mk (l : List UInt8) : L ⟨l.toArray⟩ = l := by simp [L]
theorem L_lit (a : Array UInt8) : L ⟨a⟩ = a.toList := rfl
theorem L_app (s t : ByteArray) : L (s ++ t) = L s ++ L t := by simp [L, ByteArray.data_append]
theorem L_ext (s : ByteArray) (a b : Nat) : L (s.extract a b) = ((L s).take b).drop a := by
  simp only [L, ByteArray.data_extract, Array.toList_extract]
  simp [List.extract_eq_take_drop, List.drop_take]
theorem L_empty : L ByteArray.empty = [] := rfl
theorem bt_L {s : ByteArray} {i : Int} (h : i.toNat < (L s).length) : bt s i = (((L s)[i.toNat]).toNat : Int) := by
  have h' : i.toNat < s.size := by rw [sz]; exact h
  rw [bt, dif_pos h']; rfl
theorem bt_n {s : ByteArray} {n : Nat} (h : n < (L s).length) : bt s (n : Int) = (((L s)[n]).toNat : Int) := by
  have := bt_L (s := s) (i := (n : Int)) (by simpa using h); simpa using this
theorem u8_of (c : UInt8) : ((c.toNat : Int).toNat).toUInt8 = c := by simp
theorem u8_int {a b : UInt8} : ((a.toNat : Int) = (b.toNat : Int)) ↔ a = b := by
  constructor
  · intro h; exact UInt8.toNat_inj.mp (by exact_mod_cast h)
  · intro h; rw [h]
theorem u8_wf {c : Int} (h : (Lit.int .u8 c).wf = true) : ∃ u : UInt8, c = (u.toNat : Int) := by
  have h2 : 0 ≤ c ∧ c < 256 := by
    simp [Lit.wf] at h
    have e1 : IntKind.u8.min = 0 := rfl
    have e2 : IntKind.u8.max = 255 := rfl
    omega
  exact ⟨c.toNat.toUInt8, by simp; omega⟩
theorem i64_wf {c : Int} (h : (Lit.int .i64 c).wf = true) : -9223372036854775808 ≤ c ∧ c ≤ 9223372036854775807 := by
  simp [Lit.wf] at h
  have e1 : IntKind.i64.min = -9223372036854775808 := rfl
  have e2 : IntKind.i64.max = 9223372036854775807 := rfl
  omega
theorem w64 {n : Int} (a : -9223372036854775808 ≤ n) (b : n ≤ 9223372036854775807) : wrap64 n = n := by unfold wrap64; omega
theorem w64s {n : Nat} (h : n < 9223372036854775807) : wrap64 ((n : Int) + 1) = ((n + 1 : Nat) : Int) := by
  rw [w64 (by omega) (by omega)]; omega

/-- A mask of low bits is a rest. -/
theorem bits_mask64 (n : Int) (j : Nat) (hj : j ≤ 62) : Go.bits .and .i64 n ((2 ^ j - 1 : Nat) : Int) = n % ((2 ^ j : Nat) : Int) := by
  have hp : 2 ^ j ≤ 2 ^ 62 := Nat.pow_le_pow_right (by omega) hj
  have hp0 : 0 < 2 ^ j := Nat.two_pow_pos j
  have h127 : (BitVec.ofInt 64 ((2 ^ j - 1 : Nat) : Int)).toNat = 2 ^ j - 1 := by
    rw [BitVec.toNat_ofInt]; omega
  have key : (BitVec.ofInt 64 n &&& BitVec.ofInt 64 ((2 ^ j - 1 : Nat) : Int)).toNat = (n % ((2 ^ 64 : Nat) : Int)).toNat % 2 ^ j := by
    rw [BitVec.toNat_and, BitVec.toNat_ofInt, h127, Nat.and_two_pow_sub_one_eq_mod]
  show IntKind.i64.wrap ((BitVec.ofInt 64 n &&& BitVec.ofInt 64 ((2 ^ j - 1 : Nat) : Int)).toNat : Nat) = _
  rw [key, IntKind.wrap_i64]
  have hd : ((2 ^ j : Nat) : Int) ∣ ((2 ^ 64 : Nat) : Int) := Int.ofNat_dvd.mpr (Nat.pow_dvd_pow 2 (by omega))
  have e : (((n % ((2 ^ 64 : Nat) : Int)).toNat % 2 ^ j : Nat) : Int) = n % ((2 ^ j : Nat) : Int) := by
    rw [Int.natCast_emod, Int.toNat_of_nonneg (Int.emod_nonneg _ (by decide)), Int.emod_emod_of_dvd _ hd]
  have h1 : 0 ≤ n % ((2 ^ j : Nat) : Int) := Int.emod_nonneg _ (by omega)
  have h2 : n % ((2 ^ j : Nat) : Int) < ((2 ^ j : Nat) : Int) := Int.emod_lt_of_pos _ (by omega)
  rw [e]; omega
theorem bits_and1 (n : Int) : Go.bits .and .i64 n 1 = n % 2 := bits_mask64 n 1 (by omega)
theorem bits_and3 (n : Int) : Go.bits .and .i64 n 3 = n % 4 := bits_mask64 n 2 (by omega)
theorem bits_and7 (n : Int) : Go.bits .and .i64 n 7 = n % 8 := bits_mask64 n 3 (by omega)
theorem bits_and15 (n : Int) : Go.bits .and .i64 n 15 = n % 16 := bits_mask64 n 4 (by omega)
theorem bits_and31 (n : Int) : Go.bits .and .i64 n 31 = n % 32 := bits_mask64 n 5 (by omega)
theorem bits_and255 (n : Int) : Go.bits .and .i64 n 255 = n % 256 := bits_mask64 n 8 (by omega)
theorem bits_and65535 (n : Int) : Go.bits .and .i64 n 65535 = n % 65536 := bits_mask64 n 16 (by omega)

/-- Does a text have a byte? -/
def mem (s : ByteArray) (c : UInt8) : Bool := (L s).contains c
theorem indexByte_ge0 (l : List UInt8) (c : UInt8) : (Lib.indexByte l c ≥ 0) ↔ l.contains c = true := by
  induction l with
  | nil => simp [Lib.indexByte]
  | cons b l ih =>
    have hge := Lib.indexByte_ge l c
    by_cases hb : b = c
    · subst hb; simp [Lib.indexByte]
    · have hb' : ¬ c = b := fun h => hb h.symm
      by_cases h : l.contains c = true
      · have := ih.mpr h
        have hne : ¬ Lib.indexByte l c = -1 := by omega
        have hm : c ∈ l := by simpa using h
        simp [Lib.indexByte, hb, hne, hm]; omega
      · have h1 : ¬ (0 ≤ Lib.indexByte l c) := fun x => h (ih.mp x)
        have h2 : Lib.indexByte l c = -1 := by omega
        have hm : ¬ c ∈ l := by simpa using h
        simp [Lib.indexByte, hb, hb', h2, hm]

/-- A text of a row of bytes. -/
def mkB (l : List UInt8) : ByteArray := ⟨l.toArray⟩
theorem L_mkB (l : List UInt8) : L (mkB l) = l := L_mk l
theorem mkB_L (s : ByteArray) : mkB (L s) = s := L_inj (L_mkB _)
theorem mkB_iff {l m : List UInt8} : mkB l = mkB m ↔ l = m := ⟨fun h => by have := congrArg L h; rwa [L_mkB, L_mkB] at this, fun h => by rw [h]⟩
theorem lit_mkB (a : Array UInt8) : (⟨a⟩ : ByteArray) = mkB a.toList := L_inj (by rw [L_mkB, L_lit])
theorem ext_mkB (s : ByteArray) (a b : Nat) : s.extract a b = mkB (((L s).take b).drop a) := L_inj (by rw [L_ext, L_mkB])
theorem app_mkB (s t : ByteArray) : s ++ t = mkB (L s ++ L t) := L_inj (by rw [L_app, L_mkB])
theorem sz_mkB (l : List UInt8) : (mkB l).size = l.length := by rw [sz, L_mkB]
theorem empty_mkB : ByteArray.empty = mkB [] := rfl
theorem tl_mkB (l : List UInt8) : (mkB l).toList = l := by rw [tl, L_mkB]
theorem bt_mk {l : List UInt8} {n : Nat} (h : n < l.length) : bt (mkB l) (n : Int) = ((l[n]).toNat : Int) := by
  rw [bt, dif_pos (by rw [sz_mkB]; simpa using h)]; rfl
theorem bt_0 {s : ByteArray} {c : UInt8} {m : List UInt8} (h : L s = c :: m) : bt s 0 = (c.toNat : Int) := by
  have := bt_n (s := s) (n := 0) (by rw [h]; simp); simpa [h] using this
theorem bt_last {s : ByteArray} {c : UInt8} {m : List UInt8} (h : L s = m ++ [c]) (hm : m.length < 9223372036854775807) : bt s (wrap64 ((s.size : Int) - 1)) = (c.toNat : Int) := by
  have e : wrap64 ((s.size : Int) - 1) = (m.length : Int) := by rw [sz, h]; simp; rw [w64 (by omega) (by omega)]
  have := bt_n (s := s) (n := m.length) (by rw [h]; simp); rw [e, this]; simp [h]
theorem rdOf_map {xs : List (List UInt8)} {n : Nat} (h : n < xs.length) : rdOf ByteArray.empty (xs.map mkB) (n : Int) = mkB xs[n] := by
  simp [rdOf, List.getD, h]
theorem map_L_mkB (xs : List ByteArray) : (xs.map L).map mkB = xs := by
  rw [List.map_map]; conv => rhs; rw [← List.map_id xs]
  exact List.map_congr_left fun s _ => mkB_L s
theorem mkB_inj_map {xs ys : List (List UInt8)} : xs.map mkB = ys.map mkB ↔ xs = ys := by
  constructor
  · intro h; have := congrArg (List.map L) h; simpa [List.map_map, Function.comp_def, L_mkB] using this
  · intro h; rw [h]

/-! Rounds -/
theorem ev_pos {α : Type} {c : Prop} [Decidable c] {f g : Nat → Option α} {r : α} (h : c) (H : Ev f r) : Ev (fun k => if c then f k else g k) r := by simpa only [if_pos h] using H
theorem ev_neg {α : Type} {c : Prop} [Decidable c] {f g : Nat → Option α} {r : α} (h : ¬ c) (H : Ev g r) : Ev (fun k => if c then f k else g k) r := by simpa only [if_neg h] using H
theorem ev_some {α β : Type} {a : α} {f : Nat → α → Option β} {r : β} (H : Ev (fun k => f k a) r) : Ev (fun k => (some a).bind (f k)) r := H
theorem ev_now {α : Type} {a r : α} (h : a = r) : Ev (fun _ => some a) r := by rw [h]; exact Ev.now r
theorem ev_det {α : Type} {g : Nat → Option α} {r q : α} (h : Ev g r) (k : Ev g q) : r = q := by
  obtain ⟨K, hK⟩ := h; obtain ⟨K', hK'⟩ := k
  have := hK (max K K') (Nat.le_max_left _ _); have := hK' (max K K') (Nat.le_max_right _ _); simp_all
theorem ev_ex {α : Type} {g : Nat → Option α} {r : α} (h : Ev g r) : ∃ k, g k = some r := h.rounds
end Go.Proofs.YthdndghhdiadiaaDoor.B
