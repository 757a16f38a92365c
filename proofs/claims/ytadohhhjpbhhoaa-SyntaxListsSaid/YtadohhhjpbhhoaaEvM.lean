/- An evaluator of the program's code over abstract values and an abstract heap: places in rows, cuts of rows, aggregates. -/
import Derived.Test.YtadohhhjpbhhoaaEvL
namespace Go.Proofs.Ytadohhhjpbhhoaa.EvA
open Go.RowKit
set_option linter.unusedVariables false
set_option linter.unusedSimpArgs false
section
variable {P : Program} {d : Option Tmp} {t t2 t3 : TypeId} {pos : String} {af : Array Edge} {g : Option (Nat × Bool)}
theorem add_at (b o n : Nat) : (⟨b, o, none⟩ : Addr).add n = ⟨b, o + n, none⟩ := by
  unfold Addr.add; split
  · rename_i e; rw [e]; rfl
  · rfl
theorem ok_iaddr {x i : Operand} {kx ki : AX} (hx : cX x = some kx) (hi : cX i = some ki) {e : TypeId} (hu : P.underlying t2 = some (.slice e)) {n : Nat} (hn : sizeT P e = some n) : OpOk P ⟨d, .indexAddr t2 x i, t, pos, af, g⟩ (oIaddr n kx ki) :=
  OpOk.pure fun call B w0 G h w a ts v h' h1 h2 h3 => by
    have r1 := cX_ok hx h1
    have r2 := cX_ok hi h1
    simp only [oIaddr] at h3
    split at h3
    · rename_i cs len s k m e1 e2
      split at h3
      · rename_i hc
        simp only [Option.some.injEq, Prod.mk.injEq] at h3
        obtain ⟨rfl, rfl⟩ := h3
        rw [e1] at r1; rw [e2] at r2
        simp only [VR] at r1 r2
        obtain ⟨q2, q3, ⟨_, h0, _⟩ | ⟨r, p, ad, cap, q4, q5, q6, q7, q8, q9, q10, q11⟩⟩ := r1
        · omega
        have hcap : ad = ⟨r.b, p - r.base, none⟩ := by
          rcases q11 with h0 | h0
          · omega
          · exact h0.1
        subst hcap
        refine ⟨rfl, .pointer (some ⟨r.b, p - r.base + m.toNat * n, none⟩), ?_, ?_⟩
        · simp [execOp, Instr.indexAt, q5, r2, asIntOf, run_und hu, hc.1, hc.2.1, run_size hn, add_at]
        · simp only [VR]; exact ⟨r, p, q4, q6, q7, q8, q10, rfl⟩
      · cases h3
    · cases h3
theorem ok_cutrow {x : Operand} {lo hi : Option Operand} {kx : AX} {kl kh : Option AX} (hx : cX x = some kx) (hl : cO lo = some kl) (hh : cO hi = some kh) {e : TypeId} (hu : P.underlying t2 = some (.slice e)) {n : Nat} (hn : sizeT P e = some n) :
    OpOk P ⟨d, .slice t2 x lo hi none, t, pos, af, g⟩ (oCutrow n kx kl kh) :=
  OpOk.pure fun call B w0 G h w a ts v h' h1 h2 h3 => by
    have r1 := cX_ok hx h1
    simp only [oCutrow] at h3
    split at h3
    · rename_i e1
      split at h3
      · rename_i b hb
        obtain ⟨p, q⟩ := b
        simp only [Option.some.injEq, Prod.mk.injEq] at h3
        obtain ⟨rfl, rfl⟩ := h3
        rw [e1] at r1; simp only [VR] at r1
        obtain ⟨h4, h5, h6⟩ := bounds_run (P := P) (w := w) h1 hl hh (Nat.le_refl 0) hb true
        obtain rfl : q = 0 := by omega
        obtain rfl : p = 0 := by omega
        refine ⟨rfl, .slice none 0 0, ?_, by simp [VR]⟩
        simp only [execOp, r1, Instr.sliceAt, Instr.slice, Sem.run_bind, run_und hu, Result.andThen, h4, run_size hn, Option.map_none]
        rfl
      · cases h3
    · rename_i cs len s e1
      split at h3
      · rename_i hok
        split at h3
        · rename_i p q hb
          simp only [Option.some.injEq, Prod.mk.injEq] at h3
          obtain ⟨rfl, rfl⟩ := h3
          rw [e1] at r1; simp only [VR] at r1
          obtain ⟨q2, q3, ⟨g1, rfl, a0, cap, g2, g5⟩ | ⟨r, o, ad, cap, q4, q5, q6, q7, q8, q9, q10, q11⟩⟩ := r1
          · obtain ⟨h4, h5, h6⟩ := bounds_run (P := P) (w := w) h1 hl hh (Nat.zero_le cap) hb true
            obtain rfl : q = 0 := by omega
            obtain rfl : p = 0 := by omega
            refine ⟨rfl, .slice (if cap = 0 then a0 else a0.map fun x => x.add (0 * n)) (0 - 0) (cap - 0), ?_, ?_⟩
            · simp only [execOp, g2, Instr.sliceAt, Instr.slice, Sem.run_bind, run_und hu, Result.andThen, h4, run_size hn, Option.map_none]
              rfl
            · simp only [VR]
              exact ⟨by simp, by rw [adv_size]; exact q3, Or.inl ⟨by rw [adv_fam]; exact g1, trivial, _, _, rfl, fun e => by rw [adv_id g1] at e; have := g5 e; cases a0 with | none => exact absurd rfl this | some a0 => split <;> simp⟩⟩
          obtain ⟨h4, h5, h6⟩ := bounds_run (P := P) (w := w) h1 hl hh q9 hb true
          have hsz : s.size = n := hok.2
          refine ⟨rfl, .slice (some (if cap = p then ad else ad.add (p * n))) (q - p) (cap - p), ?_, ?_⟩
          · simp only [execOp, q5, Instr.sliceAt, Instr.slice, Sem.run_bind, run_und hu, Result.andThen, h4, run_size hn, Option.map_none, Option.map_some]
            by_cases hcp : cap = p
            · simp [hcp]
            · simp [hcp]
          · rw [hsz] at q2 q3 q11
            have m1 : p * n + (q - p) * n = q * n := by rw [← Nat.add_mul]; congr 1; omega
            have m2 : q * n ≤ len * n := Nat.mul_le_mul_right _ h6
            have hlen : ((cs.drop (p * n)).take ((q - p) * n)).length = (q - p) * n := by
              rw [List.length_take, List.length_drop]; omega
            simp only [VR]
            refine ⟨by rw [hlen, adv_size, hsz], by rw [adv_size, hsz]; exact q3, Or.inr ⟨r, o + p * n, _, cap - p, q4.adv _, rfl, q6, by omega, by rw [hlen]; omega, by omega, ?_, ?_⟩⟩
            · have hk := VRs_take ((q - p) * n) (VRs_drop (p * n) q10)
              have el : (((r.vs.drop (o - r.org)).take cs.length).drop (p * n)).take ((q - p) * n) = (r.vs.drop (o + p * n - r.org)).take ((q - p) * n) := by
                rw [List.drop_take, List.take_take, List.drop_drop]
                congr 1
                · omega
                · congr 1; omega
              rw [hlen, ← el]; exact hk
            · by_cases hcp : cap = p
              · exact Or.inl (by omega)
              · rw [if_neg hcp, adv_size, hsz]
                rcases q11 with h0 | ⟨h0, h0'⟩
                · omega
                · refine Or.inr ⟨?_, ?_⟩
                  · rw [h0, add_at]; congr 1; omega
                  · have m3 : p * n + (cap - p) * n = cap * n := by rw [← Nat.add_mul]; congr 1; omega
                    rcases h0' with h0' | h0'
                    · exact Or.inl (by rw [adv_fam]; exact h0')
                    · exact Or.inr (by omega)
        · cases h3
      · cases h3
    · cases h3
end
end Go.Proofs.Ytadohhhjpbhhoaa.EvA
