/- An evaluator of the program's code over abstract values and an abstract heap: code, functions, and what it says of a call. -/
import Derived.Test.YtbbgpbgnbgiaiaaEvIc
import Derived.Defers
namespace Go.Proofs.Ytbbgpbgnbgiaiaa.EvA
open Go.RowKit
set_option linter.unusedVariables false
set_option linter.unusedSimpArgs false
theorem regD_ok {P : Program} {ops : Array Oper} {draw : Bool} {k : KC} (hk : cRegD P ops draw = some k) {call : Fn} {n : Nat} {B : Nat → Prop} {w0 w : World} (hc : CallOk P B w0 call) {G : Gh} {h : AH} {a : Act} {ts : Tmps} {r : AO × Tmps × AH} {id : Nat}
    (h1 : VRs G ts a.tmps.toList) (h2 : WR B w0 G h w) (hd : DR G h.defs a.defers) (h3 : k call n ts h = some r) : (Code.region id ops draw).wp P (EndsIn B w0 G r) a w := by
  unfold cRegD at hk
  split at hk
  · rename_i o rv hrev
    split at hk
    · rename_i c hop hg hdst
      split at hk
      · rename_i x hcal
        split at hk
        · rename_i kr f as q1 q2 q3
          simp only [Option.some.injEq] at hk; subst hk
          have hl : ops.toList = rv.reverse ++ [o] := by
            have := congrArg List.reverse hrev
            simpa using this
          have hsz : ops.size = rv.length + 1 := by
            have := congrArg List.length hl
            simpa using this
          have hget : ∀ i, i < rv.length → ops.getD i default = (rv.reverse).getD i default := by
            intro i hi
            have h0 : ops.getD i default = ops.toList.getD i default := by simp [List.getD_eq_getElem?_getD]
            rw [h0, hl, List.getD_eq_getElem?_getD, List.getD_eq_getElem?_getD, List.getElem?_append_left (by simpa using hi)]
          have hlast : ops[rv.length]? = some o := by
            have h0 : ops[rv.length]? = ops.toList[rv.length]? := by simp
            rw [h0, hl, List.getElem?_append_right (by simp)]
            simp
          have hpre : (List.range rv.length).map (fun i => ops.getD i default) = rv.reverse := by
            apply List.ext_getElem?
            intro i
            rw [List.getElem?_map]
            by_cases hi : i < rv.length
            · rw [List.getElem?_range hi]
              simp only [Option.map_some]
              rw [hget i hi, List.getD_eq_getElem?_getD, List.getElem?_eq_getElem (by simpa using hi)]; rfl
            · rw [List.getElem?_eq_none (by simpa using hi), List.getElem?_eq_none (by simpa using hi)]; rfl
          have hr : List.range ops.size = List.range rv.length ++ [rv.length] := by rw [hsz, List.range_succ]
          refine wp_region ?_
          rw [hr]
          simp only [kRegD] at h3
          split at h3
          · cases h3
          · rename_i ts' h' he
            rw [cR_run q1] at he
            refine runS_ok hc [rv.length] (List.range rv.length) G h h' w a ts ts' h1 h2 rfl (fun i hi => by have := List.mem_range.1 hi; omega) (by rw [hpre]; exact he) ?_
            rintro a' w' ⟨G', g1, g2, g3, g4⟩
            simp only [wpOps, hlast]
            rw [if_pos (by unfold Region.wanted; rw [hg])]
            left
            have rf := cX_ok q2 g2
            have ras := cXs_ok g2 q3
            obtain ⟨od, oop, oty, opos, oaf, og⟩ := o
            simp only at hop hg hdst
            subst hop; subst hg; subst hdst
            obtain ⟨callee, ⟨args⟩, ats⟩ := c
            simp only at hcal; subst hcal
            have fin : ∀ (g : FuncId) (fst cap : Array Value) (avs : List AV), a'.eval x = .func (.func g) fst cap → VRs G' avs ((fst ++ (⟨args⟩ : Array Operand).map a'.eval).toList ++ cap.toList) → r = (.normal, ts', { h' with defs := (g, avs) :: h.defs }) →
                Oper.wp P ⟨none, .defer { callee := .value x, args := ⟨args⟩, argTypes := ats }, oty, opos, oaf, none⟩ a' w' (fun a w => EndsIn B w0 G r .normal a w) (EndsIn B w0 G r) := by
              intro g fst cap avs hv hav hr
              unfold Oper.wp
              have hrun : (execOp a'.eval ⟨none, .defer { callee := .value x, args := ⟨args⟩, argTypes := ats }, oty, opos, oaf, none⟩).run P w' = .ok (.defer { target := .fn (.func g) cap, args := fst ++ (⟨args⟩ : Array Operand).map a'.eval }) w' := by
                simp [execOp, resolve, hv, Deferred.ofValue]
              rw [hrun]
              subst hr
              refine ⟨⟨G', g1, g2, g3.defs _, ?_⟩, rfl⟩
              show DR G' ((g, avs) :: h.defs) (_ :: a'.defers)
              exact ⟨cap, _, a'.defers, rfl, hav, by rw [g4]; exact hd.mono g1⟩
            split at h3
            · rename_i g cs e
              simp only [Option.some.injEq] at h3
              rw [e] at rf; simp only [VR] at rf
              obtain ⟨l, hv, hl2⟩ := rf
              refine fin g #[] ⟨l⟩ _ hv ?_ h3.symm
              simpa using VRs_app ras hl2
            · rename_i g cs e
              simp only [Option.some.injEq] at h3
              rw [e] at rf; simp only [VR] at rf
              obtain ⟨l, hv, hl2⟩ := rf
              refine fin g ⟨l⟩ #[] _ hv ?_ h3.symm
              simpa using VRs_app hl2 ras
            · cases h3
        · cases hk
      · cases hk
    · cases hk
  · cases hk
theorem code_ok {P : Program} {B : Nat → Prop} {w0 : World} {call : Fn} (hc : CallOk P B w0 call) (n : Nat) : ∀ (c : Code) (k : KC), cC P c = some k → ∀ (G : Gh) (h : AH) (w : World) (a : Act) (ts : Tmps) (r : AO × Tmps × AH),
    VRs G ts a.tmps.toList → WR B w0 G h w → DR G h.defs a.defers → k call n ts h = some r → c.wp P (EndsIn B w0 G r) a w := by
  intro c
  induction c with
  | skip =>
    intro k hk G h w a ts r h1 h2 hd h3
    simp only [cC, Option.some.injEq] at hk; subst hk
    simp only [kSkip, Option.some.injEq] at h3; subst h3
    exact wp_skip ⟨⟨G, Gle.refl G, h1, h2, hd⟩, rfl⟩
  | region id ops draw =>
    intro k hk G h w a ts r h1 h2 hd h3
    simp only [cC] at hk
    split at hk
    · rename_i q hq
      simp only [Option.some.injEq] at hk; subst hk
      simp only [kReg] at h3
      split at h3
      · cases h3
      · rename_i ts' h' he
        simp only [Option.some.injEq] at h3; subst h3
        have fin : ∀ a' w', Sim a.defers B w0 G ts' h' a' w' → EndsIn B w0 G (.normal, ts', h'.keep h) .normal a' w' := by
          rintro a' w' ⟨G', g1, g2, g3, g4⟩
          exact ⟨⟨G', g1, g2, g3.defs _, by rw [g4]; exact hd.mono g1⟩, rfl⟩
        unfold cReg at hq
        split at hq
        · rename_i hT
          rw [cR_run hq] at he
          exact region_ok hT hc h1 h2 rfl he fin
        · rename_i hT
          have hdr : draw = true := by
            cases draw with
            | true => rfl
            | false => simp [drawT] at hT
          subst hdr
          split at hq
          · rename_i k hk
            simp only [Option.some.injEq] at hq; subst hq
            exact float_ok hk hc h1 h2 rfl he fin
          · simp only at hq
            split at hq
            · rename_i k hk
              simp only [Option.some.injEq] at hq; subst hq
              exact ip_ok hk hc h1 h2 rfl he (fun c a w hq => by cases hq.2) fin
            · exact float_ok hq hc h1 h2 rfl he fin
    · split at hk
      · rename_i q hq
        simp only [Option.some.injEq] at hk; subst hk
        exact regD_ok hq hc h1 h2 hd h3
      · simp only [Option.some.injEq] at hk; subst hk
        cases h3
  | seq x y ihx ihy =>
    intro k hk G h w a ts r h1 h2 hd h3
    simp only [cC] at hk
    split at hk
    · rename_i kx ky hx hy
      simp only [Option.some.injEq] at hk; subst hk
      simp only [kSeq] at h3
      split at h3
      · rename_i ts1 hh1 he
        refine wp_seq (wp_mono (ihx kx hx G h w a ts _ h1 h2 hd he) ?_)
        rintro e a1 w1 ⟨⟨G', g1, g2, g3, g4⟩, hE⟩
        simp only at hE; subst hE
        exact wp_mono (ihy ky hy G' hh1 w1 a1 ts1 r g2 g3 g4 h3) fun e a w s => s.le g1
      · rename_i hne
        refine wp_seq (wp_mono (ihx kx hx G h w a ts r h1 h2 hd h3) ?_)
        obtain ⟨o, ts', h'⟩ := r
        rintro e a1 w1 ⟨s, hE⟩
        cases o with
        | normal => exact absurd h3 (hne _ _)
        | exit id => simp only at hE; subst hE; exact ⟨s, rfl⟩
        | ret => simp only at hE; subst hE; exact ⟨s, rfl⟩
    · cases hk
  | cond c x y ihx ihy =>
    intro k hk G h w a ts r h1 h2 hd h3
    simp only [cC] at hk
    split at hk
    · rename_i kc kx ky hkc hx hy
      simp only [Option.some.injEq] at hk; subst hk
      have rc := cX_ok hkc h1
      simp only [kCond] at h3
      split at h3
      · rename_i t ht
        rw [ht] at rc; simp only [VR] at rc
        cases t with
        | true => exact wp_cond_true rc (ihx kx hx G h w a ts r h1 h2 hd h3)
        | false => exact wp_cond_false rc (ihy ky hy G h w a ts r h1 h2 hd h3)
      · cases h3
    · cases hk
  | block id x ih =>
    intro k hk G h w a ts r h1 h2 hd h3
    simp only [cC] at hk
    obtain ⟨kx, hx, rfl⟩ := Option.map_eq_some_iff.1 hk
    simp only [kBlock] at h3
    split at h3
    · rename_i i ts1 hh1 he
      refine wp_block (wp_mono (ih kx hx G h w a ts _ h1 h2 hd he) ?_)
      rintro e a1 w1 ⟨s, hE⟩
      simp only at hE; subst hE
      simp only [Exit.inBlock]
      split at h3
      · rename_i hb
        have : i = id := Nat.eq_of_beq_eq_true hb
        rw [if_pos this]
        simp only [Option.some.injEq] at h3; subst h3
        exact ⟨s, rfl⟩
      · rename_i hb
        have : i ≠ id := fun e => by subst e; rw [Nat.beq_refl] at hb; cases hb
        rw [if_neg this]
        simp only [Option.some.injEq] at h3; subst h3
        exact ⟨s, rfl⟩
    · rename_i hne
      refine wp_block (wp_mono (ih kx hx G h w a ts r h1 h2 hd h3) ?_)
      obtain ⟨o, ts', h'⟩ := r
      rintro e a1 w1 ⟨s, hE⟩
      cases o with
      | normal => simp only at hE; subst hE; exact ⟨s, rfl⟩
      | exit i => exact absurd h3 (hne _ _ _)
      | ret => simp only at hE; subst hE; exact ⟨s, rfl⟩
  | loop x ih =>
    intro k hk G h w a ts r h1 h2 hd h3
    simp only [cC] at hk
    obtain ⟨kx, hx, rfl⟩ := Option.map_eq_some_iff.1 hk
    simp only [kLoop] at h3
    have key : ∀ (m : Nat) (G : Gh) (h : AH) (w : World) (a : Act) (ts : Tmps), VRs G ts a.tmps.toList → WR B w0 G h w → DR G h.defs a.defers → aloop (kx call n) m ts h = some r → LoopWp P x (EndsIn B w0 G r) a w := by
      intro m
      induction m with
      | zero => intro G h w a ts _ _ _ h3; cases h3
      | succ m ihm =>
        intro G h w a ts h1 h2 hd h3
        have e : aloop (kx call n) (m + 1) ts h = match kx call n ts h with
          | some (.normal, ts, h) => aloop (kx call n) m ts h
          | r => r := rfl
        rw [e] at h3
        split at h3
        · rename_i ts1 hh1 he
          refine LoopWp.round (wp_mono (ih kx hx G h w a ts _ h1 h2 hd he) ?_)
          rintro e a1 w1 ⟨⟨G', g1, g2, g3, g4⟩, hE⟩
          simp only at hE; subst hE
          intro b k cs
          obtain ⟨e2, a2, w2, q, ar⟩ := ihm G' hh1 w1 a1 ts1 g2 g3 g4 h3 b k cs
          exact ⟨e2, a2, w2, q.le g1, ar⟩
        · rename_i hne
          refine LoopWp.round (wp_mono (ih kx hx G h w a ts r h1 h2 hd h3) ?_)
          obtain ⟨o, ts', h'⟩ := r
          rintro e a1 w1 ⟨s, hE⟩
          cases o with
          | normal => exact absurd h3 (hne _ _)
          | exit id => simp only at hE; subst hE; exact ⟨s, rfl⟩
          | ret => simp only at hE; subst hE; exact ⟨s, rfl⟩
    exact (key n G h w a ts h1 h2 hd h3).loop
  | exit id =>
    intro k hk G h w a ts r h1 h2 hd h3
    simp only [cC, Option.some.injEq] at hk; subst hk
    simp only [kExit, Option.some.injEq] at h3; subst h3
    exact wp_exit ⟨⟨G, Gle.refl G, h1, h2, hd⟩, rfl⟩
  | ret =>
    intro k hk G h w a ts r h1 h2 hd h3
    simp only [cC, Option.some.injEq] at hk; subst hk
    simp only [kRet, Option.some.injEq] at h3; subst h3
    exact wp_ret ⟨⟨G, Gle.refl G, h1, h2, hd⟩, rfl⟩
  | _ => intro k hk G h w a ts r h1 h2 hd h3; simp only [cC, Option.some.injEq] at hk; subst hk; cases h3
/-- A function's result, as the model reads it. -/
def res1 (tmps : Array Value) : ResultVar → Sem Value
  | .tmp t => pure (tmps.getD t undef)
  | .cell a t => do loadVar t (← asAddr (tmps.getD a undef))
theorem res1_ok {P : Program} {B : Nat → Prop} {w0 w : World} {G : Gh} {h : AH} (hW : WR B w0 G h w) {ts : Tmps} {tmps : Array Value} (h1 : VRs G ts tmps.toList) {x : ResultVar} {r : Tmps → AH → Option AV} (hr : cV P x = some r) {v : AV} (hv : r ts h = some v) :
    ∃ u, (res1 tmps x).run P w = .ok u w ∧ VR G v u := by
  cases x with
  | tmp t =>
    simp only [cV, Option.some.injEq] at hr; subst hr
    simp only [rTmp, Option.some.injEq] at hv; subst hv
    exact ⟨_, rfl, VR_getD h1 t⟩
  | cell c t =>
    simp only [cV] at hr
    obtain ⟨q, hq, rfl⟩ := Option.map_eq_some_iff.1 hr
    simp only [rCell] at hv
    have rc := VR_getD h1 c
    split at hv
    · rename_i i off e
      rw [e] at rc; simp only [VR] at rc
      obtain ⟨b, hb, hav⟩ := rc
      split at hv
      · rename_i cs hg
        obtain ⟨b2, hb2, l, el, hw, hrr⟩ := hW.blk i _ hg
        have : b2 = b := Option.some.inj (hb2.symm.trans hb)
        subst this
        obtain ⟨y, hy, hR⟩ := load_run (P := P) (o := 0) hq hrr hv (w := w) (b := b2) (by intro j x hx; rw [cell_of hw, Nat.zero_add]; simpa using hx)
        rw [Nat.zero_add] at hy
        refine ⟨y, ?_, hR⟩
        simp only [res1, hav, asAddr, pure_bind, hy]
      · cases hv
    · cases hv
theorem resL_ok {P : Program} {B : Nat → Prop} {w0 w : World} {G : Gh} {h : AH} (hW : WR B w0 G h w) {ts : Tmps} {tmps : Array Value} (h1 : VRs G ts tmps.toList) : ∀ {l : List ResultVar} {rs : List (Tmps → AH → Option AV)}, l.mapM (cV P) = some rs → ∀ {vs : List AV}, rs.mapM (fun r => r ts h) = some vs →
    ∃ us, (l.mapM (res1 tmps)).run P w = .ok us w ∧ VRs G vs us
  | [], rs, hr, vs, hv => by simp at hr; subst hr; simp at hv; subst hv; exact ⟨[], rfl, by simp [VRs]⟩
  | x :: l, rs, hr, vs, hv => by
    simp only [List.mapM_cons, Option.bind_eq_bind, Option.bind_eq_some_iff, Option.pure_def, Option.some.injEq] at hr
    obtain ⟨r, hr1, rest, hr2, rfl⟩ := hr
    simp only [List.mapM_cons, Option.bind_eq_bind, Option.bind_eq_some_iff, Option.pure_def, Option.some.injEq] at hv
    obtain ⟨v, hv1, vs', hv2, rfl⟩ := hv
    obtain ⟨u, hu, hR⟩ := res1_ok hW h1 hr1 hv1
    obtain ⟨us, hus, hRs⟩ := resL_ok hW h1 hr2 hv2
    refine ⟨u :: us, ?_, by simp only [VRs]; exact ⟨u, us, rfl, hR, hRs⟩⟩
    simp only [List.mapM_cons, Sem.run_bind, hu, Result.andThen, hus]
    rfl
theorem mapM_length {α β : Type} {f : α → Option β} : ∀ {l : List α} {r : List β}, l.mapM f = some r → r.length = l.length
  | [], r, h => by simp at h; subst h; rfl
  | x :: l, r, h => by
    simp only [List.mapM_cons, Option.bind_eq_bind, Option.bind_eq_some_iff, Option.pure_def, Option.some.injEq] at h
    obtain ⟨y, _, m, hm, rfl⟩ := h
    simp [mapM_length hm]
theorem results_ok {P : Program} {B : Nat → Prop} {w0 w : World} {G : Gh} {h : AH} (hW : WR B w0 G h w) {ts : Tmps} {tmps : Array Value} (h1 : VRs G ts tmps.toList) {fn : Func} {r : Tmps → AH → Option AV} (hr : cVs P fn.results.toList = some r) {v : AV} (hv : r ts h = some v) :
    ∃ u, (results fn tmps).run P w = .ok u w ∧ VR G v u := by
  have hrun : (results fn tmps).run P w = ((fn.results.toList.mapM (res1 tmps)).run P w).andThen fun us w => .ok (if h : us.toArray.size = 1 then us.toArray[0] else .tuple us.toArray) w := by
    have hmm : ∀ (f : ResultVar → Sem Value), (∀ x, f x = res1 tmps x) → ∀ l : List ResultVar, List.mapM f l = List.mapM (res1 tmps) l := fun f hf l => by rw [funext hf]
    unfold results
    simp only [Array.mapM_eq_mapM_toList, Sem.run_bind]
    rw [hmm _ (by intro x; cases x <;> rfl)]
    rw [map_eq_pure_bind]
    simp only [Sem.run_bind]
    cases (fn.results.toList.mapM (res1 tmps)).run P w with
    | ok us w' => rfl
    | halt x w' => rfl
  rw [hrun]
  unfold cVs at hr
  split at hr
  · rename_i hm
    simp only [Option.some.injEq] at hr; subst hr
    simp only [rNone, Option.some.injEq] at hv; subst hv
    obtain ⟨us, hus, hRs⟩ := resL_ok hW h1 hm (vs := []) rfl
    simp only [VRs] at hRs; subst hRs
    exact ⟨.tuple #[], by rw [hus]; rfl, by simp only [VR]; exact ⟨[], rfl, by simp [VRs]⟩⟩
  · rename_i r' hm
    simp only [Option.some.injEq] at hr; subst hr
    obtain ⟨us, hus, hRs⟩ := resL_ok hW h1 hm (vs := [v]) (by simp [hv])
    simp only [VRs] at hRs
    obtain ⟨u, m, rfl, hR, rfl⟩ := hRs
    exact ⟨u, by rw [hus]; rfl, hR⟩
  · rename_i l hne0 hne1 hm
    simp only [Option.some.injEq] at hr; subst hr
    simp only [rTup] at hv
    split at hv
    · rename_i vs hvs
      simp only [Option.some.injEq] at hv; subst hv
      obtain ⟨us, hus, hRs⟩ := resL_ok hW h1 hm hvs
      refine ⟨.tuple us.toArray, ?_, by simp only [VR]; exact ⟨us, rfl, hRs⟩⟩
      rw [hus]
      have hlen : us.length = l.length := by
        rw [VRs_length hRs]
        exact mapM_length hvs
      have h1' : ¬ us.toArray.size = 1 := by
        intro e
        have : l.length = 1 := by rw [← hlen]; simpa using e
        match l, this with
        | [x], _ => exact hne1 x rfl
      simp only [Result.andThen, dif_neg h1']
    · cases hv
  · cases hr
/-- What is owed by what is told of a function at once. -/
def SumOk (P : Program) (B : Nat → Prop) (w0 : World) (S : FuncId → Option (List AV → AH → Option (AV × AH))) : Prop :=
  ∀ (f : FuncId) (s : List AV → AH → Option (AV × AH)), S f = some s → ∀ (args : List AV) (h : AH) (v : AV) (h' : AH), s args h = some (v, h') → ∀ (G : Gh) (w : World) (vals : List Value), VRs G args vals → WR B w0 G h w →
    CallRes P f ⟨vals⟩ w fun u w' => ∃ G', Gle G G' ∧ VR G' v u ∧ WR B w0 G' h' w'
theorem VRs_undef (G : Gh) : ∀ n, VRs G (List.replicate n (.tup [])) (List.replicate n undef)
  | 0 => by simp [VRs]
  | n + 1 => by simp only [List.replicate_succ, VRs]; exact ⟨_, _, rfl, VR_undef G, VRs_undef G n⟩
/-- What is deferred is done. -/
theorem leaves_ok {P : Program} {B : Nat → Prop} {w0 : World} {S : FuncId → Option (List AV → AH → Option (AV × AH))} {F : FuncId → Option AF} (hF : ∀ f fn, F f = some fn → cF P f = some fn) {ih : Fn} (hc : CallOk P B w0 ih) {n : Nat} {fn : Func} {tmps : Array Value} {R : Ending → World → Prop} :
    ∀ (dfs : List (FuncId × List AV)) (ds : List Deferred) (G : Gh) (h h2 : AH) (w : World), DR G dfs ds → WR B w0 G h w → runD (dcall S F ih n) dfs h = some h2 → (∀ G' w', Gle G G' → WR B w0 G' h2 w' → ∃ v, (results fn tmps).run P w' = .ok v w' ∧ R (.returned v) w') → Leaves P fn tmps R ds .returning w
  | [], ds, G, h, h2, w, hD, hW, hr, hR => by
    have : ds = [] := hD
    subst this
    simp only [runD, Option.some.injEq] at hr; subst hr
    exact hR G w (Gle.refl G) hW
  | (f, as) :: r, ds, G, h, h2, w, hD, hW, hr, hR => by
    obtain ⟨cap, dargs, m, rfl, hv, hm⟩ := hD
    simp only [runD] at hr
    split at hr
    · rename_i v h' hcall
      unfold dcall at hcall
      split at hcall
      · cases hcall
      · split at hcall
        · cases hcall
        · rename_i fn2 hfn2
          have hcf := hF f fn2 hfn2
          unfold cF at hcf
          split at hcf
          · cases hcf
          · rename_i f0 hf0
            split at hcf
            · cases hcf
            · rename_i hname
              split at hcf
              · rename_i b rr hb hrr
                simp only [Option.some.injEq] at hcf; subst hcf
                obtain ⟨c, hcb, hcc⟩ := Option.bind_eq_some_iff.1 hb
                have hn : ¬ f0.name = "runtime.NumGoroutine" := by simpa using hname
                have hi : (invoke (.fn (.func f) cap) dargs).run P w = .ok (.enter f (dargs ++ cap)) w := by simp [invoke, callFunc, hf0, hn, hcb]
                refine leaves_cons (by simp) hi ?_
                have hT : VRs G (as ++ List.replicate (f0.ntmps - as.length) (.tup [])) ((dargs ++ cap) ++ Array.replicate (f0.ntmps - (dargs ++ cap).size) undef).toList := by
                  have hl : (dargs ++ cap).size = as.length := by have := VRs_length hv; simpa using this
                  rw [hl]
                  simp only [Array.toList_append, Array.toList_replicate]
                  exact VRs_app hv (VRs_undef G _)
                have done : ∀ {o ts hh}, b ih n (as ++ List.replicate (f0.ntmps - as.length) (.tup [])) h.bare = some (o, ts, hh) → (o = .normal ∨ o = .ret) → (match hh.defs with | [] => (match rr ts hh with | some v => some (v, hh) | none => none) | _ => none) = some (v, h') →
                    CallsD P f (dargs ++ cap) .returning w fun
                      | .returned _, u', w' => Leaves P fn tmps R m (settle u') w'
                      | .panicked chain, u', w' => Leaves P fn tmps R m (raised u' chain) w'
                      | .outgrown, _, w' => R .outgrown w' := by
                  intro o ts hh hbody ho hres
                  have hbW : WR B w0 G h.bare w := hW.defs []
                  split at hres
                  · rename_i hdn
                    split at hres
                    · rename_i v' hv'
                      simp only [Option.some.injEq, Prod.mk.injEq] at hres
                      obtain ⟨rfl, rfl⟩ := hres
                      refine CallsD.mono (callsD_of_wp (R := fun e w' => ∃ u, e = .returned u ∧ ∃ G', Gle G G' ∧ WR B w0 G' hh w') hf0 hcb ?_) ?_
                      · refine wp_mono (code_ok hc n c b hcc G h.bare w ⟨_, []⟩ _ _ hT hbW rfl hbody) ?_
                        rintro e a w' ⟨⟨G', g1, g2, g3, g4⟩, hE⟩
                        simp only at g4 hE
                        rw [hdn] at g4
                        obtain ⟨u, hu, _⟩ := results_ok g3 g2 hrr hv'
                        rcases ho with rfl | rfl <;> simp only at hE <;> subst hE <;> exact ⟨g4, u, hu, u, rfl, G', g1, g3⟩
                      · rintro e u' w' ⟨rfl, u, rfl, G', g1, g3⟩
                        exact leaves_ok hF hc r m G' hh h2 w' (hm.mono g1) g3 hr fun G2 w2 k1 k2 => hR G2 w2 (g1.trans k1) k2
                    · cases hres
                  · cases hres
                split at hcall
                · rename_i ts hh he; exact done he (Or.inl rfl) hcall
                · rename_i ts hh he; exact done he (Or.inr rfl) hcall
                · cases hcall
              · cases hcf
    · cases hr
/-- The evaluator's word on a call holds of the model's run. -/
theorem eval_ok {P : Program} {B : Nat → Prop} {w0 : World} {S : FuncId → Option (List AV → AH → Option (AV × AH))} {F : FuncId → Option AF} (hS : SumOk P B w0 S) (hF : ∀ f fn, F f = some fn → cF P f = some fn) : ∀ n, CallOk P B w0 (aeval S F n)
  | 0 => fun f args h v h' e => by cases e
  | n + 1 => by
    intro f args h v h' e G w vals h1 h2
    have e0 : aeval S F (n + 1) f args h = match S f with
      | some s => s args h
      | none => match F f with
        | none => none
        | some fn => match fn.body (aeval S F n) n (args ++ List.replicate (fn.ntmps - args.length) (.tup [])) h.bare with
          | some (.normal, ts, h) | some (.ret, ts, h) => (match runD (dcall S F (aeval S F n) n) h.defs h with
            | some h => (match fn.results ts h with | some v => some (v, h) | none => none)
            | none => none)
          | _ => none := rfl
    rw [e0] at e
    split at e
    · rename_i s hs
      exact hS f s hs args h v h' e G w vals h1 h2
    · split at e
      · cases e
      · rename_i fn hfn
        have hc := hF f fn hfn
        unfold cF at hc
        split at hc
        · cases hc
        · rename_i f0 hf0
          split at hc
          · cases hc
          · rename_i hname
            split at hc
            · rename_i b r hb hr
              simp only [Option.some.injEq] at hc; subst hc
              obtain ⟨c, hcb, hcc⟩ := Option.bind_eq_some_iff.1 hb
              right
              constructor
              · have hn : ¬ f0.name = "runtime.NumGoroutine" := by simpa using hname
                simp [callFunc, hf0, hn, hcb]
              · refine calls_of_wp_defers hf0 hcb ?_
                have hT : VRs G (args ++ List.replicate (f0.ntmps - args.length) (.tup [])) ((⟨vals⟩ : Array Value) ++ Array.replicate (f0.ntmps - (⟨vals⟩ : Array Value).size) undef).toList := by
                  simp only [Array.toList_append, Array.toList_replicate]
                  have hl : (⟨vals⟩ : Array Value).size = args.length := by simpa using VRs_length h1
                  rw [hl]
                  exact VRs_app h1 (VRs_undef G _)
                have hbW : WR B w0 G h.bare w := h2.defs []
                have fin : ∀ {o ts hh}, b (aeval S F n) n (args ++ List.replicate (f0.ntmps - args.length) (.tup [])) h.bare = some (o, ts, hh) → (o = .normal ∨ o = .ret) → (match runD (dcall S F (aeval S F n) n) hh.defs hh with | some h => (match r ts h with | some v => some (v, h) | none => none) | none => none) = some (v, h') →
                    c.wp P (bodyPostD P f0 fun e w' => match e with | .returned u => ∃ G', Gle G G' ∧ VR G' v u ∧ WR B w0 G' h' w' | _ => False) { tmps := (⟨vals⟩ : Array Value) ++ Array.replicate (f0.ntmps - (⟨vals⟩ : Array Value).size) undef, defers := [] } w := by
                  intro o ts hh hbody ho hres
                  refine wp_mono (code_ok (eval_ok hS hF n) n c b hcc G h.bare w ⟨_, []⟩ _ _ hT hbW rfl hbody) ?_
                  rintro e a w' ⟨⟨G', g1, g2, g3, g4⟩, hE⟩
                  simp only at g4 hE
                  have key : Leaves P f0 a.tmps (fun e w' => match e with | .returned u => ∃ G', Gle G G' ∧ VR G' v u ∧ WR B w0 G' h' w' | _ => False) a.defers .returning w' := by
                    split at hres
                    · rename_i h3 hrd
                      split at hres
                      · rename_i v' hv'
                        simp only [Option.some.injEq, Prod.mk.injEq] at hres
                        obtain ⟨rfl, rfl⟩ := hres
                        refine leaves_ok hF (eval_ok hS hF n) hh.defs a.defers G' hh h3 w' g4 g3 hrd fun G2 w2 k1 k2 => ?_
                        obtain ⟨u, hu, hR⟩ := results_ok k2 (VRs_mono k1 _ _ g2) hr hv'
                        exact ⟨u, hu, G2, g1.trans k1, hR, k2⟩
                      · cases hres
                    · cases hres
                  rcases ho with rfl | rfl <;> simp only at hE <;> subst hE <;> exact key
                split at e
                · rename_i ts hh he; exact fin he (Or.inl rfl) e
                · rename_i ts hh he; exact fin he (Or.inr rfl) e
                · cases e
            · cases hc
end Go.Proofs.Ytbbgpbgnbgiaiaa.EvA
