/-
  EvCodeB: rounds of ranges over functions, and calls. No condition.
-/
import Derived.Test.YtmmaneofdfbllaaGreatEvCode
set_option linter.unusedVariables false
set_option linter.unusedSimpArgs false
set_option linter.unusedSectionVars false
namespace Go.Ev
noncomputable section

section
variable {C : Ctx} {S : String → Code → Prop} {F : Fr} {i : Emb} {w : World} {rec : Job → Option Out}

theorem run_setObj' {P : Program} {r : Nat} {p : Loop} (hr : w.heap[r]? = some (.loop p)) (o : Obj) : (setObj r o).run P w = .ok () (setBlk w r o) := by
  simp only [setObj, Sem.run, hr, setBlk]
theorem run_getObj' {P : Program} {r : Nat} {p : Loop} (hr : w.heap[r]? = some (.loop p)) : (getObj r).run P w = .ok (.loop p) w := by
  simp only [getObj, Sem.run, hr]
theorem run_getLoop {P : Program} {r : Nat} {R : Loop} (hr : w.heap[r]? = some (.loop R)) : (Instr.getLoop r).run P w = .ok R w := by
  simp only [Instr.getLoop, Sem.run_bind, run_getObj' hr, Result.andThen_ok, Sem.run_pure]

/-- A block that is given up, whatever becomes of it. -/
theorem Rel.free {G : Nat → Option AObj} {n : Nat} {w' : World} (R : Rel S F i G n w) {b : Nat} {o : AObj} {c : Nat × Nat} (hb : G b = some o) (ho : o.own = true) (hc : i b = some c)
    (h0 : ∀ k, k ≠ c.1 → w'.heap[k]? = w.heap[k]?) (h2 : w'.os = w.os) (h3 : w'.output = w.output) (h4 : w'.tape = w.tape) : Rel S F i (updG G b .dead) n w' := by
  have hF := R.apart b o c hb ho hc
  have R' := R.kill hb
  refine { R' with objs := ?_, keep := ?_, os := by rw [h2, R.os], output := by rw [h3, R.output], tape := by rw [h4, R.tape] }
  · intro d x hd hx
    obtain ⟨c', hc', hr⟩ := R'.objs d x hd hx
    refine ⟨c', hc', ?_⟩
    have hdb : d ≠ b := by
      rintro rfl
      simp only [updG, if_pos] at hd
      simp only [Option.some.injEq] at hd; subst hd; simp [AObj.live] at hx
    have hd' : G d = some x := by simpa [updG, hdb] using hd
    have hne : c'.1 ≠ c.1 := by
      intro he
      cases hxo : x.own with
      | true => exact hdb (R.inj d b x o c' c hd' hb hxo ho hc' hc he)
      | false =>
        cases x <;> simp [AObj.own, AObj.live] at hxo hx
        have := F.roIn _ (R.roFr d _ c' hd' hc')
        rw [he, hF] at this
        simp at this
    rw [h0 _ hne]
    exact hr
  · intro k x hk
    have hne : k ≠ c.1 := by rintro rfl; rw [hF] at hk; cases hk
    rw [h0 k hne]
    exact R.keep k x hk

/-- A loop's record. -/
theorem loop_at {h : Heap} (R : Rel S F i h.get h.next w) {l : Nat} {r : ALoop} {c : Nat × Nat} (hl : h.get l = some (.loop r)) (hc : i l = some c) :
    ∃ L : Loop, w.heap[c.1]? = some (.loop L) ∧ L.state = r.state ∧ L.pending = r.pending ∧ ERel i { n := r.n, t := r.tmps } L.tmps ∧ L.params.toList = r.params ∧ CR S r.assign L.assign ∧ CR S r.body L.body ∧
      (∃ d, i r.defers = some d ∧ L.defers = d.1) ∧
      ∀ st pd, Rel S F i (h.set l (.loop { r with state := st, pending := pd })).get (h.set l (.loop { r with state := st, pending := pd })).next (setBlk w c.1 (.loop { L with state := st, pending := pd })) := by
  obtain ⟨c', hc', L, hw, h1, h2, h3, h4, h5, h6, h7⟩ := R.objs l _ hl rfl
  rw [hc] at hc'; cases hc'
  refine ⟨L, hw, h1, h2, h3, h4, h5, h6, h7, fun st pd => ?_⟩
  rw [Heap.get_set']
  exact R.setBlk hl rfl hc rfl hw ⟨_, rfl, rfl, rfl, h3, h4, h5, h6, h7⟩

theorem params_ok : ∀ {ps : List Tmp} {args : List AV} {vs : List Value} {e e' : Env} {tmps : Array Value}, ERel i e tmps → VRels i args vs → setParams e ps args = some e' →
    ps.length = vs.length ∧ ERel i e' ((ps.zip vs).foldl (fun tmps (p : Tmp × Value) => tmps.setIfInBounds p.1 p.2) tmps)
  | [], [], [], e, e', tmps, g, _, h => by simp only [setParams, Option.some.injEq] at h; subst h; exact ⟨rfl, g⟩
  | p :: ps, v :: args, x :: vs, e, e', tmps, g, gv, h => by
    simp only [VRels] at gv
    simp only [setParams] at h
    have g' : ERel i (e.set p v) (tmps.setIfInBounds p x) := ERel.put (a := { tmps := tmps, defers := [] }) g gv.1 (some p)
    obtain ⟨h1, h2⟩ := params_ok g' gv.2 h
    exact ⟨by simp [h1], by simpa using h2⟩
  | [], _ :: _, _, _, _, _, _, _, h => by simp [setParams] at h
  | _ :: _, [], _, _, _, _, _, _, h => by simp [setParams] at h
  | [], [], _ :: _, _, _, _, _, gv, _ => by simp [VRels] at gv
  | _ :: _, _ :: _, [], _, _, _, _, gv, _ => by simp [VRels] at gv

/-- A round. -/
theorem round_ok (hrec : RecOk C S rec) {l : Nat} {args : List AV} {h : Heap} {out : Out} (hs : stepRound rec l args h = some out) : JobOk C S (.round l args h) out := by
  unfold stepRound at hs
  split at hs
  rotate_left
  · exact absurd hs (by simp)
  rename_i r hl
  split at hs
  rotate_left
  · exact absurd hs (by simp)
  rename_i e he
  split at hs
  rotate_left
  · exact absurd hs (by simp)
  rename_i e1 h1 hra
  have ha := hrec _ _ hra
  split at hs
  rotate_left
  · exact absurd hs (by simp)
  rename_i r1 hl1
  cases hrd : isReady r1.state with
  | false => rw [hrd] at hs; simp at hs
  | true =>
  rw [hrd] at hs
  simp only [cond_true] at hs
  have hst1 : r1.state = .ready := by revert hrd; cases r1.state <;> simp [isReady]
  cases hrb : rec (.code (some l) r.body [] e1 (h1.set l (.loop { r1 with state := .busy }))) with
  | none => rw [hrb] at hs; simp [endRound] at hs
  | some o2 =>
  rw [hrb] at hs
  have hb := hrec _ _ hrb
  cases o2 with
  | val v h2 => simp [endRound] at hs
  | code x2 ds2 e2 h2 =>
  simp only [endRound] at hs
  split at hs
  rotate_left
  · exact absurd hs (by simp)
  rename_i r2 hl2
  -- what the round hands back
  have fin : ∀ (F : Fr) (i j : Emb) (c : Nat × Nat) (w2 : World) (pd : Option Code) (v : AV) (h3 : Heap), i.Le j → Rel S F j h2.get h2.next w2 → j l = some c →
      v = .bool pd.isNone → h3 = h2.set l (.loop { r2 with state := if pd.isNone then .ready else .done, pending := pd }) →
      ∃ x w3, (Instr.endRound c.1 pd).run C.P w2 = .ok x w3 ∧ onValue (After S F i v h3) (.returned x) w3 := by
    rintro F i j c w2 pd v h3 hij R hc rfl rfl
    obtain ⟨L, hw, _, _, _, _, _, _, _, hset⟩ := loop_at R hl2 hc
    refine ⟨.bool pd.isNone, setBlk w2 c.1 (.loop { L with state := if pd.isNone then .ready else .done, pending := pd }), ?_, j, hij, by simp only [VRel], hset _ _⟩
    simp only [Instr.endRound, Sem.run_bind, run_getLoop hw, Result.andThen_ok, run_setObj' hw, Sem.run_pure]
  have main : ∀ (v : AV) (h3 : Heap), out = .val v h3 → (∀ (F : Fr) (i j : Emb) (c : Nat × Nat) (w2 : World) (a2 : Act), i.Le j → Rel S F j h2.get h2.next w2 → j l = some c → roundPost C.P c.1 (onValue (After S F i v h3)) (exitOf x2) a2 w2) →
      JobOk C S (.round l args h) out := by
    rintro v h3 rfl hend F i vs w c R gv hc
    obtain ⟨L, hw, hst, hpd, hE, hps, hA, hB, hD, _⟩ := loop_at R hl hc
    obtain ⟨hlen, hE'⟩ := params_ok hE gv he
    refine ⟨L.fn, (L.params.zip vs.toArray).foldl (fun tmps (t, a) => tmps.setIfInBounds t a) L.tmps, L.assign, L.body, ?_, ?_⟩
    · have : ¬ (vs.toArray.size ≠ L.params.size) := by
        rw [← Array.length_toList (xs := L.params), hps]; simp [hlen]
      simp only [Instr.yield, Sem.run_bind, run_getLoop hw, Result.andThen_ok, if_neg this, Sem.run_pure]
    · refine roundIn_of_wpIn trivial ?_
      have hE2 : ERel i e ((L.params.zip vs.toArray).foldl (fun tmps (t, a) => tmps.setIfInBounds t a) L.tmps) := by
        have e1 : L.params.zip vs.toArray = (r.params.zip vs).toArray := by
          rw [← hps]; apply Array.ext'; simp
        rw [e1, List.foldl_toArray]
        exact hE'
      refine wpIn_mono (ha _ F i (some c.1) { tmps := _, defers := [] } w hA R hE2 rfl ⟨c, hc, rfl⟩).1 ?_
      rintro x' a1 w1 ⟨rfl, j, hj, R1, E1, D1⟩
      have hc1 := hj _ _ hc
      obtain ⟨L1, hw1, hs1, hp1, hE1, hps1, hA1, hB1, hD1, hset1⟩ := loop_at R1 hl1 hc1
      refine ⟨setBlk w1 c.1 (.loop { L1 with state := .busy }), ?_, ?_⟩
      · have : L1.state = .ready := by rw [hs1, hst1]
        simp only [Instr.beginRound, Sem.run_bind, run_getLoop hw1, Result.andThen_ok, run_setObj' hw1, this, Sem.run_pure]
      · have R2 := hset1 .busy L1.pending
        have e3 : (AObj.loop { r1 with state := .busy, pending := L1.pending }) = .loop { r1 with state := .busy } := by rw [hp1]
        rw [e3] at R2
        refine wpIn_mono (hb _ F j (some c.1) a1 _ hB R2 E1 D1 ⟨c, hc1, rfl⟩).1 ?_
        rintro x'' a2 w2 ⟨rfl, k, hk, R3, E3, D3⟩
        exact hend F i k c w2 a2 (hj.trans hk) R3 (hk _ _ hc1)
  split at hs
  · simp only [Option.some.injEq] at hs
    refine main _ _ hs.symm fun F i j c w2 a2 hij R hc => ?_
    exact fin F i j c w2 none _ _ hij R hc rfl rfl
  · simp only [Option.some.injEq] at hs
    refine main _ _ hs.symm fun F i j c w2 a2 hij R hc => ?_
    exact fin F i j c w2 (some .ret) _ _ hij R hc rfl rfl
  · rename_i id
    simp only [Option.some.injEq] at hs
    refine main _ _ hs.symm fun F i j c w2 a2 hij R hc => ?_
    exact fin F i j c w2 (some (.exit id)) _ _ hij R hc rfl rfl

/-! ### A range over a function -/

/-- The functions of the table. -/
def FnsOk (C : Ctx) (S : String → Code → Prop) : Prop :=
  ∀ f fn, C.fn f = some fn → ∃ fn₀, C.P.funcs[f]? = some fn₀ ∧ fn₀.results = fn.results ∧ fn₀.ntmps = fn.ntmps ∧ (fn₀.name == "runtime.NumGoroutine") = false ∧ fn₀.body.isSome = fn.body.isSome ∧
    ∀ c, fn.body = some c → ∃ c₀, fn₀.body = some c₀ ∧ CR S c c₀

theorem after_ok {l : Nat} {ds : List Nat} {e : Env} {v : AV} {h : Heap} {out : Out} (hs : afterLoop l ds e (some (.val v h)) = some out) :
    ∃ x h', out = .code x ds e h' ∧ ∀ (F : Fr) (i j : Emb) (r : Option Nat) (c : Nat × Nat) (a : Act) (w : World), i.Le j → Rel S F j h.get h.next w → ERel j e a.tmps → DRel j ds a.defers → j l = some c →
      ∀ y, rangePost (fc r) 0 C.P c.1 (Behind S F i x ds e h') a (.returned y) w := by
  simp only [afterLoop] at hs
  split at hs
  rotate_left
  · exact absurd hs (by simp)
  rename_i r hl
  cases hbz : isBusy r.state with
  | true => rw [hbz] at hs; simp at hs
  | false =>
  rw [hbz] at hs
  simp only [cond_false] at hs
  have main : ∀ (x : Ex) (F : Fr) (i j : Emb) (rr : Option Nat) (c : Nat × Nat) (a : Act) (w : World), i.Le j → Rel S F j h.get h.next w → ERel j e a.tmps → DRel j ds a.defers → j l = some c →
      ((∀ (Q : Exit → Act → World → Prop) (w' : World), Q (exitOf x) a w' → (match r.pending with | none => Q .normal a w' | some cd => cd.wpIn (fc rr) 0 C.P Q a w'))) →
      ∀ y, rangePost (fc rr) 0 C.P c.1 (Behind S F i x ds e (h.set l (.loop { r with state := .exhausted }))) a (.returned y) w := by
    intro x F i j rr c a w hij R hE hD hc hp y
    obtain ⟨L, hw, hst, hpd, _, _, _, _, _, hset⟩ := loop_at R hl hc
    refine ⟨r.pending, setBlk w c.1 (.loop { L with state := .exhausted }), ?_, ?_⟩
    · have hnb : (L.state == .busy) = false := by
        rw [hst]; revert hbz; cases r.state <;> simp [isBusy] <;> rfl
      simp only [Instr.endLoop, Sem.run_bind, run_getLoop hw, Result.andThen_ok, hnb, Bool.false_eq_true, if_false, run_setObj' hw, Sem.run_pure, hpd]
    · have R2 := hset .exhausted L.pending
      have e3 : (AObj.loop { r with state := .exhausted, pending := L.pending }) = .loop { r with state := .exhausted } := by rw [hpd]
      rw [e3] at R2
      exact hp _ _ ⟨rfl, j, hij, R2, hE, hD⟩
  split at hs
  · rename_i hp
    simp only [Option.some.injEq] at hs
    refine ⟨_, _, hs.symm, fun F i j rr c a w hij R hE hD hc => main .normal F i j rr c a w hij R hE hD hc ?_⟩
    intro Q w' hq; rw [hp]; exact hq
  · rename_i hp
    simp only [Option.some.injEq] at hs
    refine ⟨_, _, hs.symm, fun F i j rr c a w hij R hE hD hc => main .ret F i j rr c a w hij R hE hD hc ?_⟩
    intro Q w' hq; rw [hp]; exact wpIn_ret hq
  · rename_i id hp
    simp only [Option.some.injEq] at hs
    refine ⟨_, _, hs.symm, fun F i j rr c a w hij R hE hD hc => main (.exit id) F i j rr c a w hij R hE hD hc ?_⟩
    intro Q w' hq; rw [hp]; exact wpIn_exit hq
  · exact absurd hs (by simp)

theorem range_ok' (hF : FnsOk C S) (hrec : RecOk C S rec) (ro : Option Nat) (f : Operand) (ps : Array Tmp) (assign body : Code) (ds : List Nat) (e : Env) (h : Heap) (out : Out)
    (hs : stepRange C rec ro ps.toList assign body ds e h (opd e f) = some out) : RangeOk C S ro f ps assign body ds e h out := by
  unfold stepRange at hs
  split at hs
  rotate_left
  · exact absurd hs (by simp)
  rename_i fid first caps hf
  cases hbd : hasBody C fid with
  | false => rw [hbd] at hs; simp at hs
  | true =>
  rw [hbd] at hs
  simp only [Bool.not_true, cond_false] at hs
  obtain ⟨fn, hfn, hbody⟩ : ∃ fn, C.fn fid = some fn ∧ fn.body.isSome = true := by
    unfold hasBody at hbd
    split at hbd
    · rename_i fn hfn; exact ⟨fn, hfn, hbd⟩
    · cases hbd
  obtain ⟨fn₀, hp, _, _, hnm, hbs, _⟩ := hF _ _ hfn
  have hbn : fn₀.body.isNone = false := by
    have : fn₀.body.isSome = true := by rw [hbs, hbody]
    cases hx : fn₀.body <;> simp_all
  -- the call
  have call : ∀ (l : Nat) (h1 : Heap) (ds' : List Nat), afterLoop l ds' e (rec (.call fid (first ++ [.yield l] ++ caps) h1)) = some out →
      ∃ x h', out = .code x ds' e h' ∧ ∀ (F : Fr) (i j : Emb) (r : Option Nat) (c : Nat × Nat) (a a' : Act) (w : World), i.Le j → Rel S F j h1.get h1.next w → ERel j e a.tmps → a'.tmps = a.tmps → DRel j ds' a'.defers → j l = some c →
        ∃ d w₁' args w₂, (resolve a.eval (rangeCall f c.1) 0).run C.P w = .ok d w₁' ∧ (invoke d.target d.args).run C.P w₁' = .ok (.enter fid args) w₂ ∧
          CallsIn (fc r) (0 - 1) C.P fid args w₂ (rangePost (fc r) 0 C.P c.1 (Behind S F i x ds' e h') a') := by
    intro l h1 ds' hs
    cases hr : rec (.call fid (first ++ [.yield l] ++ caps) h1) with
    | none => rw [hr] at hs; simp [afterLoop] at hs
    | some o =>
    rw [hr] at hs
    have hok := hrec _ _ hr
    cases o with
    | code x ds e h => simp [afterLoop] at hs
    | val v h2 =>
    obtain ⟨x, h', rfl, hafter⟩ := after_ok (C := C) (S := S) hs
    refine ⟨x, h', rfl, fun F i j r c a a' w hij R hE hta hD hc => ?_⟩
    have gf := opd_ok hE hf
    simp only [VRel] at gf
    obtain ⟨l', m', g1, g2, ef⟩ := gf
    have gy : VRels j [.yield l] [.func (.yield c.1) #[] #[]] := by simp only [VRels, VRel, and_true]; exact ⟨c, hc, rfl⟩
    have gargs : VRels j (first ++ [.yield l] ++ caps) (l' ++ [.func (.yield c.1) #[] #[]] ++ m') := (g1.append gy).append g2
    refine ⟨{ target := .fn (.func fid) m'.toArray, args := l'.toArray ++ #[.func (.yield c.1) #[] #[]] }, w, (l' ++ [Value.func (.yield c.1) #[] #[]] ++ m').toArray, w, ?_, ?_, ?_⟩
    · have em : Array.map a.eval #[Operand.const (Value.func (.yield c.1) #[] #[])] = #[Value.func (.yield c.1) #[] #[]] := by simp [Act.eval]
      simp only [resolve, ef, Deferred.ofValue, Sem.run_pure, em]
    · simp only [invoke]
      rw [show (l'.toArray ++ #[Value.func (.yield c.1) #[] #[]] ++ m'.toArray) = (l' ++ [Value.func (.yield c.1) #[] #[]] ++ m').toArray by apply Array.ext'; simp]
      exact run_callFunc hp hnm hbn _
    · rcases hok F j _ w R gargs with ⟨fn, q1, q2, q3, q4⟩ | ⟨x, w', q1, _⟩
      · refine CallsIn.mono (R := onValue (After S F j v h2)) q4 fun en w3 he => ?_
        cases en with
        | returned y =>
          obtain ⟨k, hk, _, R3⟩ := he
          exact hafter F i k r c a' w3 (hij.trans hk) R3 (by rw [hta]; exact hE.mono hk) (hD.mono hk) (hk _ _ hc) y
        | panicked ch => exact he.elim
        | outgrown => exact he.elim
      · rw [run_callFunc hp hnm hbn] at q1
        cases q1
  cases ro with
  | none =>
    simp only at hs
    obtain ⟨x, h', rfl, hcall⟩ := call _ _ _ hs
    refine ⟨x, _, e, h', rfl, fun assign' body' F i r a w gA gB R hE hD hr => ?_⟩
    simp only [RoRel] at hr; subst hr
    refine wpIn_rangeFunc fun fnid _ => ?_
    have f1 := R.fresh h.next (Nat.le_refl _)
    have le1 := Emb.le_upd f1.1 (w.heap.size, 0)
    have R1 : Rel S F (i.upd h.next (w.heap.size, 0)) (updG h.get h.next .defd) (h.next + 1) (w.alloc (.deferred (some []))) :=
      R.add (tot := 0) f1.1 f1.2 (Nat.lt_succ_self _) (Nat.le_succ _) rfl rfl rfl rfl rfl rfl
    have f2 := R1.fresh (h.next + 1) (Nat.le_refl _)
    have le2 := Emb.le_upd f2.1 (w.heap.size + 1, 0)
    have hsz : (w.alloc (.deferred (some []))).heap.size = w.heap.size + 1 := by
      show (w.heap.push _).size = _; simp
    have R2 : Rel S F ((i.upd h.next (w.heap.size, 0)).upd (h.next + 1) (w.heap.size + 1, 0)) (updG (updG h.get h.next .defd) (h.next + 1) (.loop (freshLoop e ps.toList assign body h.next))) (h.next + 1 + 1)
        ((w.alloc (.deferred (some []))).alloc (.loop { state := .ready, pending := none, fn := fnid, tmps := a.tmps, params := ps, assign := assign', body := body', defers := w.heap.size })) := by
      rw [← hsz]
      refine R1.add f2.1 f2.2 (Nat.lt_succ_self _) (Nat.le_succ _) rfl rfl rfl rfl rfl ?_
      rw [hsz]
      refine ⟨_, rfl, rfl, rfl, (hE.mono le1).mono le2, rfl, gA, gB, (w.heap.size, 0), ?_, rfl⟩
      exact le2 _ _ (Emb.upd_same _ _ _)
    have hget : ((h.add .defd).add (.loop (freshLoop e ps.toList assign body h.next))).get = updG (updG h.get h.next .defd) (h.next + 1) (.loop (freshLoop e ps.toList assign body h.next)) := by
      rw [Heap.get_add', Heap.get_add']; rfl
    have hD2 : DRel ((i.upd h.next (w.heap.size, 0)).upd (h.next + 1) (w.heap.size + 1, 0)) (h.next :: ds) ([{ target := .collected w.heap.size, args := #[] }] ++ a.defers) :=
      ⟨(w.heap.size, 0), a.defers, le2 _ _ (Emb.upd_same _ _ _), rfl, (hD.mono le1).mono le2⟩
    obtain ⟨d, w₁', args, w₂, q1, q2, q3⟩ := hcall F i _ none (w.heap.size + 1, 0) a { a with defers := [{ target := .collected w.heap.size, args := #[] }] ++ a.defers } _ (le1.trans le2) (by rw [hget]; exact R2) ((hE.mono le1).mono le2) rfl hD2 (Emb.upd_same _ _ _)
    refine ⟨w.heap.size + 1, [{ target := .collected w.heap.size, args := #[] }], _, d, w₁', fid, args, w₂, ?_, q1, fun _ _ => trivial, q2, fc_deep none 0, q3⟩
    have : (fc none).round = none := rfl
    simp only [Instr.enterLoop, this, Sem.run_bind, run_newObj_alloc, Result.andThen_ok, Sem.run_pure, hsz]
  | some l₀ =>
    simp only at hs
    split at hs
    rotate_left
    · exact absurd hs (by simp)
    rename_i r₀ hl₀
    obtain ⟨x, h', rfl, hcall⟩ := call _ _ _ hs
    refine ⟨x, _, e, h', rfl, fun assign' body' F i r a w gA gB R hE hD hr => ?_⟩
    obtain ⟨c₀, hc₀, rfl⟩ := hr
    obtain ⟨L₀, hw₀, _, _, _, _, _, _, ⟨d₀, hd₀, hd₀'⟩, _⟩ := loop_at R hl₀ hc₀
    refine wpIn_rangeFunc fun fnid _ => ?_
    have f1 := R.fresh h.next (Nat.le_refl _)
    have le1 := Emb.le_upd f1.1 (w.heap.size, 0)
    have R1 : Rel S F (i.upd h.next (w.heap.size, 0)) (updG h.get h.next (.loop (freshLoop e ps.toList assign body r₀.defers))) (h.next + 1)
        (w.alloc (.loop { state := .ready, pending := none, fn := fnid, tmps := a.tmps, params := ps, assign := assign', body := body', defers := L₀.defers })) := by
      refine R.add f1.1 f1.2 (Nat.lt_succ_self _) (Nat.le_succ _) rfl rfl rfl rfl rfl ?_
      exact ⟨_, rfl, rfl, rfl, hE.mono le1, rfl, gA, gB, d₀, le1 _ _ hd₀, hd₀'⟩
    obtain ⟨d, w₁', args, w₂, q1, q2, q3⟩ := hcall F i _ (some c₀.1) (w.heap.size, 0) a { a with defers := [] ++ a.defers } _ le1 (by rw [Heap.get_add']; exact R1) (hE.mono le1) rfl (hD.mono le1) (Emb.upd_same _ _ _)
    refine ⟨w.heap.size, [], _, d, w₁', fid, args, w₂, ?_, q1, fun _ _ => trivial, q2, fc_deep _ 0, q3⟩
    have : (fc (some c₀.1)).round = some c₀.1 := rfl
    simp only [Instr.enterLoop, this, Sem.run_bind, run_getLoop hw₀, run_newObj_alloc, Result.andThen_ok, Sem.run_pure]

end
end
end Go.Ev
namespace Go.Ev
noncomputable section

section
variable {C : Ctx} {S : String → Code → Prop} {F : Fr} {i : Emb} {w : World} {rec : Job → Option Out}

theorem setArgs_get : ∀ (l : List AV) (k j : Nat) (t : Tr AV), (setArgs l k t).get j = if k ≤ j ∧ j < k + l.length then l[j - k]? else t.get j
  | [], k, j, t => by simp only [setArgs, List.length_nil, Nat.add_zero]; rw [if_neg (by omega)]
  | v :: l, k, j, t => by
    rw [setArgs, setArgs_get l (k + 1) j, Tr.get_put, List.length_cons]
    by_cases h1 : k + 1 ≤ j ∧ j < k + 1 + l.length
    · rw [if_pos h1, if_pos (by omega), show j - k = (j - (k + 1)) + 1 by omega, List.getElem?_cons_succ]
    · rw [if_neg h1]
      by_cases h2 : j = k
      · subst h2; rw [if_pos rfl, if_pos (by omega)]; simp
      · rw [if_neg h2, if_neg (by omega)]

theorem start_ok {args : List AV} {vs : List Value} {n : Nat} (g : VRels i args vs) :
    ERel i { n := args.length + (n - args.length), t := setArgs args 0 .leaf } (vs.toArray ++ Array.replicate (n - vs.toArray.size) undef) := by
  have hl := g.length
  refine ⟨by simp [hl], fun t => ?_⟩
  simp only [Env.get, setArgs_get, Nat.zero_le, true_and, Nat.zero_add, Nat.sub_zero, Tr.get_leaf]
  by_cases ht : t < args.length
  · rw [if_pos ht]
    obtain ⟨x, hx, gx⟩ := VRels.get t g (List.getElem?_eq_getElem ht)
    rw [List.getElem?_eq_getElem ht]
    have : (vs.toArray ++ Array.replicate (n - vs.toArray.size) undef).getD t undef = x := by
      rw [Array.getD_eq_getD_getElem?, Array.getElem?_append_left (by simp; omega)]
      simp [hx]
    rw [this]
    exact gx
  · rw [if_neg ht]
    have : (vs.toArray ++ Array.replicate (n - vs.toArray.size) undef).getD t undef = undef := by
      rw [Array.getD_eq_getD_getElem?, Array.getElem?_append_right (by simp; omega)]
      rw [Array.getElem?_replicate]
      split <;> rfl
    rw [this]
    simp only [VRel]
    exact ⟨[], by simp [VRels], rfl⟩

def resVal (tmps : Array Value) : ResultVar → Sem Value
  | .tmp t => pure (tmps.getD t undef)
  | .cell a t => do loadVar t (← asAddr (tmps.getD a undef))
theorem results_eq (fn : Func) (tmps : Array Value) : results fn tmps = (fn.results.mapM (resVal tmps) >>= fun vs => pure (if h : vs.size = 1 then vs[0] else .tuple vs)) := rfl

theorem result_ok (hC : C.Tab) {h : Heap} (R : Rel S F i h.get h.next w) {e : Env} {tmps : Array Value} (gE : ERel i e tmps) {r : ResultVar} {v : AV} (hr : resultAV C e h r = some v) :
    ∃ x, (resVal tmps r).run C.P w = .ok x w ∧ VRel i v x := by
  cases r with
  | tmp t =>
    simp only [resultAV, Option.some.injEq] at hr; subst hr
    exact ⟨_, rfl, gE.2 t⟩
  | cell a t =>
    simp only [resultAV] at hr
    split at hr
    · rename_i b o hb
      have ga := gE.2 a
      rw [hb] at ga
      simp only [VRel] at ga
      obtain ⟨c, hc, ea⟩ := ga
      obtain ⟨x, hx, gx⟩ := load_ok hC R.objs hc hr
      refine ⟨x, ?_, gx⟩
      simp only [Instr.loadAt, Instr.sureAddr, Sem.run_bind, Sem.run_pure, Result.andThen_ok] at hx
      simp only [resVal, ea, asAddr, Sem.run_bind, Sem.run_pure, Result.andThen_ok, hx]
    · exact absurd hr (by simp)

theorem results_ok (hC : C.Tab) {h : Heap} (R : Rel S F i h.get h.next w) {e : Env} {tmps : Array Value} (gE : ERel i e tmps) {fn : Func} {vs : List AV} (hr : resultsAV C e h fn.results.toList = some vs) :
    ∃ x, (results fn tmps).run C.P w = .ok x w ∧ VRel i (tupled vs) x := by
  have key : ∀ (l : List ResultVar) (vs : List AV), resultsAV C e h l = some vs → ∃ xs : List Value, (l.mapM (resVal tmps)).run C.P w = .ok xs w ∧ VRels i vs xs := by
    intro l
    induction l with
    | nil => intro vs hv; simp only [resultsAV, Option.some.injEq] at hv; subst hv; exact ⟨[], by simp, by simp [VRels]⟩
    | cons r l ih =>
      intro vs hv
      simp only [resultsAV] at hv
      split at hv
      · rename_i v us h1 h2
        simp only [Option.some.injEq] at hv; subst hv
        obtain ⟨x, hx, gx⟩ := result_ok hC R gE h1
        obtain ⟨xs, hxs, gxs⟩ := ih us h2
        refine ⟨x :: xs, ?_, by simp only [VRels]; exact ⟨gx, gxs⟩⟩
        simp only [List.mapM_cons, Sem.run_bind, hx, Result.andThen_ok, hxs, Sem.run_pure]
      · exact absurd hv (by simp)
  obtain ⟨xs, hxs, gxs⟩ := key _ _ hr
  have hrun : (results fn tmps).run C.P w = .ok (if h : xs.toArray.size = 1 then xs.toArray[0] else .tuple xs.toArray) w := by
    rw [results_eq, Array.mapM_eq_mapM_toList]
    have hm : (List.toArray <$> (fn.results.toList.mapM (resVal tmps))).run C.P w = .ok xs.toArray w := by
      rw [map_eq_pure_bind]
      simp only [Sem.run_bind, hxs, Result.andThen_ok, Sem.run_pure]
    simp only [Sem.run_bind, Sem.run_pure, hm, Result.andThen_ok]
  refine ⟨_, hrun, ?_⟩
  match vs, xs, gxs with
  | [v], [x], g => simp only [VRels, and_true] at g; simpa [tupled] using g
  | [], [], _ => simp only [tupled, VRel]; exact ⟨[], by simp [VRels], rfl⟩
  | v :: u :: vs, x :: y :: xs, g =>
    have : ¬ ((x :: y :: xs).toArray.size = 1) := by simp
    rw [dif_neg this]
    simp only [tupled, VRel]
    exact ⟨_, g, rfl⟩
  | [], _ :: _, g => simp [VRels] at g
  | _ :: _, [], g => simp [VRels] at g
  | [_], _ :: _ :: _, g => simp [VRels] at g
  | _ :: _ :: _, [_], g => simp [VRels] at g

theorem shut_ok {fn : Func} {tmps : Array Value} {RR : Ending → World → Prop} : ∀ {ds : List Nat} {h h' : Heap} {defers : List Deferred} {w : World}, shut ds h = some h' → DRel i ds defers → Rel S F i h.get h.next w →
    (∀ w', Rel S F i h'.get h'.next w' → ∃ v, (results fn tmps).run C.P w' = .ok v w' ∧ RR (.returned v) w') → LeavesInM (fc none) 0 C.P fn tmps RR defers .returning w
  | [], h, h', defers, w, hs, hD, R, hk => by
    simp only [shut, Option.some.injEq] at hs; subst hs
    simp only [DRel] at hD; subst hD
    exact hk w R
  | r :: ds, h, h', defers, w, hs, hD, R, hk => by
    obtain ⟨c, ds', hc, rfl, hD'⟩ := hD
    simp only [shut] at hs
    split at hs
    · rename_i hr
      obtain ⟨c', hc', ho⟩ := R.objs r _ hr rfl
      rw [hc] at hc'; cases hc'
      simp only [ORel] at ho
      have R' : Rel S F i (h.set r .dead).get (h.set r .dead).next (setBlk w c.1 (.deferred none)) := by
        rw [Heap.get_set']
        exact R.free hr rfl hc (fun k hk => setBlk_other hk) rfl rfl rfl
      refine ⟨by simp, .inl ⟨c.1, setBlk w c.1 (.deferred none), rfl, ?_, shut_ok hs hD' R' hk⟩⟩
      have h1 : (getObj c.1).run C.P w = .ok (.deferred (some [])) w := by simp only [getObj, Sem.run, ho]
      have h2 : (setObj c.1 (.deferred none)).run C.P w = .ok () (setBlk w c.1 (.deferred none)) := by simp only [setObj, Sem.run, ho, setBlk]
      simp only [Instr.takeDeferred, Sem.run_bind, h1, Result.andThen_ok, h2, Sem.run_pure]
    · exact absurd hs (by simp)

/-- The functions that are taken as one step. -/
def SumsOk (C : Ctx) (S : String → Code → Prop) : Prop :=
  ∀ f s, C.sums f = some s → ∀ rec, RecOk C S rec → ∀ (args : List AV) (h : Heap) (v : AV) (h' : Heap), s rec args h = some (v, h') → ValOk C S f args h v h'

theorem body_ok (hC : C.Tab) (hF : FnsOk C S) (hrec : RecOk C S rec) {f : FuncId} {args : List AV} {h : Heap} {out : Out} (hs : bodyRun C rec f args h = some out) : JobOk C S (.call f args h) out := by
  unfold bodyRun at hs
  split at hs
  case h_2 => exact absurd hs (by simp)
  rename_i fn hfn
  split at hs
  case h_2 => exact absurd hs (by simp)
  rename_i c hc
  obtain ⟨fn₀, h1, h2, h3, h4, h5, h6⟩ := hF _ _ hfn
  obtain ⟨c₀, hc₀, hcr⟩ := h6 c hc
  cases hr : rec (.code none c [] { n := args.length + (fn.ntmps - args.length), t := setArgs args 0 .leaf } h) with
  | none => rw [hr] at hs; simp [leave] at hs
  | some o =>
  rw [hr] at hs
  have hok := hrec _ _ hr
  cases o with
  | val v h2 => simp [leave] at hs
  | code x ds e h1' =>
  have main : (x = .normal ∨ x = .ret) → (match shut ds h1' with | some h' => (match resultsAV C e h' fn.results.toList with | some vs => some (Out.val (tupled vs) h') | none => none) | none => none) = some out → JobOk C S (.call f args h) out := by
    intro hx hs
    split at hs
    case h_2 => exact absurd hs (by simp)
    rename_i h2' hsh
    split at hs
    case h_2 => exact absurd hs (by simp)
    rename_i vs hvs
    simp only [Option.some.injEq] at hs; subst hs
    intro F i xs w R gv
    refine .inl ⟨fn₀, h1, h4, by rw [← Option.not_isSome, h5, hc]; rfl, ?_⟩
    refine callsIn_of_wp_marks h1 hc₀ trivial ?_
    rw [h3]
    have hE : ERel i { n := args.length + (fn.ntmps - args.length), t := setArgs args 0 .leaf } (xs.toArray ++ Array.replicate (fn.ntmps - xs.toArray.size) undef) := start_ok gv
    refine wpIn_mono (hok c₀ F i none { tmps := _, defers := [] } w hcr R hE rfl rfl).1 ?_
    rintro x' a1 w1 ⟨rfl, j, hj, R1, E1, D1⟩
    have fin : LeavesInM (fc none) 0 C.P fn₀ a1.tmps (onValue (After S F i (tupled vs) h2')) a1.defers .returning w1 := by
      refine shut_ok hsh D1 R1 fun w' R' => ?_
      rw [← h2] at hvs
      obtain ⟨y, hy, gy⟩ := results_ok hC R' E1 hvs
      exact ⟨y, hy, j, hj, gy, R'⟩
    rcases hx with rfl | rfl
    · exact fin
    · exact fin
  cases x with
  | normal => exact main (.inl rfl) hs
  | ret => exact main (.inr rfl) hs
  | exit id => simp [leave] at hs

theorem call_ok (hC : C.Tab) (hF : FnsOk C S) (hS : SumsOk C S) (hrec : RecOk C S rec) {f : FuncId} {args : List AV} {h : Heap} {out : Out} (hs : stepCall C rec f args h = some out) : JobOk C S (.call f args h) out := by
  unfold stepCall at hs
  split at hs
  · rename_i s hsf
    split at hs
    · rename_i v h' hv
      simp only [Option.some.injEq] at hs; subst hs
      exact hS f s hsf rec hrec args h v h' hv
    · exact body_ok hC hF hrec hs
  · exact body_ok hC hF hrec hs

end
end
end Go.Ev
