/-
  EvCode: code goes through as the evaluator says. No condition.
-/
import Derived.Test.YtmmaneofdfbllaaGreatEvJob
import Derived.Scope
set_option linter.unusedVariables false
set_option linter.unusedSimpArgs false
set_option linter.unusedSectionVars false
namespace Go.Ev
noncomputable section

section
variable {C : Ctx} {S : String → Code → Prop} {F : Fr} {i : Emb} {w : World} {rec : Job → Option Out}

theorem Behind.le {i j : Emb} (h : i.Le j) {x : Ex} {ds : List Nat} {e : Env} {hp : Heap} {x' : Exit} {a : Act} {w : World} (g : Behind S F j x ds e hp x' a w) : Behind S F i x ds e hp x' a w := by
  obtain ⟨h1, k, h2, h3⟩ := g
  exact ⟨h1, k, h.trans h2, h3⟩
theorem After.le {i j : Emb} (h : i.Le j) {v : AV} {hp : Heap} {x : Value} {w : World} (g : After S F j v hp x w) : After S F i v hp x w := by
  obtain ⟨k, h2, h3⟩ := g
  exact ⟨k, h.trans h2, h3⟩
theorem put_defers (a : Act) (d : Option Tmp) (x : Value) : (a.put d x).defers = a.defers := by cases d <;> rfl

/-! ### Operations -/

theorem ops_ok (hC : C.Tab) (hrec : RecOk C S rec) {all l : List Oper} {ds : List Nat} {e : Env} {h : Heap} {out : Out} (hs : stepOps C rec all ds e h l = some out) : JobOk C S (.ops all l ds e h) out := by
  cases l with
  | nil =>
    simp only [stepOps, Option.some.injEq] at hs; subst hs
    exact ⟨rfl, fun F i r a w R gE gD Q hQ => hQ _ _ ⟨rfl, i, Emb.Le.refl _, R, gE, gD⟩⟩
  | cons o l =>
    simp only [stepOps] at hs
    cases hw : wanted all e o with
    | none => rw [hw] at hs; simp [oneOp] at hs
    | some b =>
      rw [hw] at hs
      cases b with
      | false =>
        simp only [oneOp] at hs
        have ih := hrec _ _ hs
        cases out with
        | val v h2 => exact ih.elim
        | code x ds' e' h' =>
          obtain ⟨hx, ih⟩ := ih
          refine ⟨hx, fun F i r a w R gE gD Q hQ => ?_⟩
          have hwr := wanted_ok gE hw
          simp only [wpListIn, hwr, Bool.false_eq_true, if_false]
          have gu : VRel i (.tup []) undef := by simp only [VRel]; exact ⟨[], by simp [VRels], rfl⟩
          exact ⟨fun _ _ => trivial, ih F i r _ w R (gE.put gu o.dst) (by rw [put_defers]; exact gD) Q hQ⟩
      | true =>
        simp only [oneOp] at hs
        cases hd : doR rec h (opEval C e h h o.op) with
        | none => rw [hd] at hs; simp [nextOps] at hs
        | some p =>
          obtain ⟨v, h1⟩ := p
          rw [hd] at hs
          simp only [nextOps] at hs
          have ih := hrec _ _ hs
          cases out with
          | val v h2 => exact ih.elim
          | code x ds' e' h' =>
            obtain ⟨hx, ih⟩ := ih
            refine ⟨hx, fun F i r a w R gE gD Q hQ => ?_⟩
            have hwr := wanted_ok gE hw
            simp only [wpListIn, hwr, if_true]
            refine oper_ok hC hrec R gE hd fun j x w' hj gv R' => ?_
            exact ih F j r (a.put o.dst x) w' R' ((gE.mono hj).put gv o.dst) (by rw [put_defers]; exact gD.mono hj) Q (fun a' w' g => hQ _ _ (g.le hj))

/-! ### Code -/

theorem wpIn_scope {c : Code} {r : Option Nat} {P : Program} {Q : Exit → Act → World → Prop} {a : Act} {w : World} (h : c.wpIn (fc r) 0 P (Exit.noGoto Q) a w) : (Code.scope c).wpIn (fc r) 0 P Q a w := by
  intro b k cs hro hb hr
  have s1 : StepsIn (Machine.fenced P (fc r)) P (lone (b.atR a (.code (.scope c) :: k)) cs w) (lone (b.atR a (.code c :: .inScope c :: k)) cs w) :=
    .one (fc_fenced _ _ _) (step_lone_go (by simp [stepG, stepG.exec, Frame.atR]))
  have s2 : ∀ a w, StepsIn (Machine.fenced P (fc r)) P (lone (b.atR a (.inScope c :: k)) cs w) (lone (b.atR a k) cs w) := fun a w =>
    .one (fc_fenced _ _ _) (step_lone_go (by simp [stepG, stepG.exec, Frame.atR]))
  obtain ⟨e, a₁, w₁, hq, harr⟩ := h b (.inScope c :: k) cs hro hb (fc_room _ _)
  cases e with
  | normal => exact ⟨.normal, a₁, w₁, hq, StepsIn.trans s1 (StepsIn.trans harr (s2 _ _))⟩
  | exit id =>
    have hx : exitTo id (.inScope c :: k) = exitTo id k := by simp [exitTo]
    exact ⟨.exit id, a₁, w₁, hq, fun k' hk => StepsIn.trans s1 (harr.1 k' (by rw [hx]; exact hk)), fun hr hk => let ⟨k₁, h1, h2⟩ := harr.2 hr (by rw [hx]; exact hk); ⟨k₁, h1, StepsIn.trans s1 h2⟩⟩
  | goto l => exact hq.elim
  | ret => exact ⟨.ret, a₁, w₁, hq, ArrivesIn.of_steps (e := .ret) s1 harr⟩
  | panic ch => exact ⟨.panic ch, a₁, w₁, hq, ArrivesIn.of_steps (e := .panic ch) s1 harr⟩
  | outgrown => exact ⟨.outgrown, a₁, w₁, hq, ArrivesIn.of_steps (e := .outgrown) s1 harr⟩

theorem loopIn_wp {r : Option Nat} {P : Program} {c : Code} {Q : Exit → Act → World → Prop} {a : Act} {w : World} (h : LoopIn r P c Q a w) : (Code.loop c).wpIn (fc r) 0 P Q a w := by
  intro b k cs hro hb hr
  obtain ⟨e, a', w', hq, harr⟩ := h b k cs hro
  exact ⟨e, a', w', hq, .of_steps (.one (fc_fenced _ _ _) stepR_loop) harr⟩

theorem loopIn_of {r : Option Nat} {P : Program} {c : Code} {Q : Exit → Act → World → Prop} {a : Act} {w : World} (h : c.wpIn (fc r) 0 P (Exit.then (LoopIn r P c Q) Q) a w) : LoopIn r P c Q a w := by
  intro b k cs hro
  obtain ⟨e, a₁, w₁, hq, harr⟩ := h b (.inLoop c :: k) cs hro trivial (fc_room _ _)
  cases e with
  | normal =>
    obtain ⟨e₂, a₂, w₂, hq₂, harr₂⟩ := hq b k cs hro
    exact ⟨e₂, a₂, w₂, hq₂, .of_steps (StepsIn.trans harr (.one (fc_fenced _ _ _) stepR_inLoop)) harr₂⟩
  | exit id => exact ⟨_, a₁, w₁, hq, .pass (x := .inLoop c) rfl (fun _ _ => .inl (by simp)) harr⟩
  | goto l => exact ⟨_, a₁, w₁, hq, .pass (x := .inLoop c) rfl (fun _ _ => .inl (by simp)) harr⟩
  | ret => exact ⟨_, a₁, w₁, hq, .pass (x := .inLoop c) rfl (fun _ _ => .inl (by simp)) harr⟩
  | panic ch => exact ⟨_, a₁, w₁, hq, .pass (x := .inLoop c) rfl (fun _ _ => .inl (by simp)) harr⟩
  | outgrown => exact ⟨_, a₁, w₁, hq, .pass (x := .inLoop c) rfl (fun _ _ => .inl (by simp)) harr⟩

/-- The rows of a region that draws: proved apart. -/
def DrawsOk (C : Ctx) (S : String → Code → Prop) : Prop :=
  ∀ (id : Nat) (ops : Array Oper) (l : List (Oper × Nat × Nat)) (ds : List Nat) (e : Env) (h : Heap) (e' : Env) (h' : Heap), plan C ops.toList = some l → DrawT C S ops.toList e h h [h] [] l e' h' →
    ∀ (F : Fr) (i : Emb) (r : Option Nat) (a : Act) (w : World), Rel S F i h.get h.next w → ERel i e a.tmps → DRel i ds a.defers → (Code.region id ops true).wpIn (fc r) 0 C.P (Behind S F i .normal ds e' h') a w

end
end
end Go.Ev
namespace Go.Ev
noncomputable section

section
variable {C : Ctx} {S : String → Code → Prop} {F : Fr} {i : Emb} {w : World} {rec : Job → Option Out}

/-- The pieces of code that are taken as one step: outside of a round. -/
def CsumsOk (C : Ctx) (S : String → Code → Prop) : Prop :=
  ∀ (s : String) (g : (Job → Option Out) → List Nat → Env → Heap → Option (Env × Heap)), C.csum s = some g → ∀ rec, RecOk C S rec → ∀ (ds : List Nat) (e : Env) (h : Heap) (e' : Env) (h' : Heap), g rec ds e h = some (e', h') →
    ∀ c', S s c' → ∀ (F : Fr) (i : Emb) (a : Act) (w : World), Rel S F i h.get h.next w → ERel i e a.tmps → DRel i ds a.defers →
      c'.wpIn (fc none) 0 C.P (Behind S F i .normal ds e' h') a w

/-- The pieces of code that stand under a name. -/
def NamesOk (C : Ctx) (S : String → Code → Prop) : Prop := ∀ s c, C.cname s = some c → ∀ c', S s c' → CR S c c'
/-- A range over a function. -/
def RangeOk (C : Ctx) (S : String → Code → Prop) (ro : Option Nat) (f : Operand) (ps : Array Tmp) (assign body : Code) (ds : List Nat) (e : Env) (h : Heap) (out : Out) : Prop :=
  ∃ x ds' e' h', out = .code x ds' e' h' ∧ ∀ (assign' body' : Code) (F : Fr) (i : Emb) (r : Option Nat) (a : Act) (w : World), CR S assign assign' → CR S body body' → Rel S F i h.get h.next w → ERel i e a.tmps → DRel i ds a.defers → RoRel i ro r →
    (Code.rangeFunc f ps assign' body').wpIn (fc r) 0 C.P (Behind S F i x ds' e' h') a w

theorem code_ok (hC : C.Tab) (hrec : RecOk C S rec) (hdr : DrawsOk C S) (hcs : CsumsOk C S) (hnm : NamesOk C S)
    (hra : ∀ ro f ps assign body ds e h out, stepRange C rec ro ps.toList assign body ds e h (opd e f) = some out → RangeOk C S ro f ps assign body ds e h out)
    {ro : Option Nat} {c : Code} {ds : List Nat} {e : Env} {h : Heap} {out : Out} (hs : stepCode C rec ro ds e h c = some out) : JobOk C S (.code ro c ds e h) out := by
  -- code that is no loop
  have plain : ∀ {x ds' e' h'}, (∀ d, c ≠ .loop d) → (∀ (c' : Code) (F : Fr) (i : Emb) (r : Option Nat) (a : Act) (w : World), CR S c c' → Rel S F i h.get h.next w → ERel i e a.tmps → DRel i ds a.defers → RoRel i ro r →
      c'.wpIn (fc r) 0 C.P (Behind S F i x ds' e' h') a w) → CodeOk C S ro c ds e h x ds' e' h' := by
    intro x ds' e' h' hl hw c' F i r a w h1 h2 h3 h4 h5
    exact ⟨hw c' F i r a w h1 h2 h3 h4 h5, fun d d' hd _ => absurd hd (hl d)⟩
  cases c with
  | skip =>
    simp only [stepCode, Option.some.injEq] at hs; subst hs
    refine plain (by simp) fun c' F i r a w h1 h2 h3 h4 h5 => ?_
    cases h1
    exact wpIn_skip ⟨rfl, i, Emb.Le.refl _, h2, h3, h4⟩
  | label l =>
    simp only [stepCode, Option.some.injEq] at hs; subst hs
    refine plain (by simp) fun c' F i r a w h1 h2 h3 h4 h5 => ?_
    cases h1
    exact wpIn_label ⟨rfl, i, Emb.Le.refl _, h2, h3, h4⟩
  | exit id =>
    simp only [stepCode, Option.some.injEq] at hs; subst hs
    refine plain (by simp) fun c' F i r a w h1 h2 h3 h4 h5 => ?_
    cases h1
    exact wpIn_exit ⟨rfl, i, Emb.Le.refl _, h2, h3, h4⟩
  | ret =>
    simp only [stepCode, Option.some.injEq] at hs; subst hs
    refine plain (by simp) fun c' F i r a w h1 h2 h3 h4 h5 => ?_
    cases h1
    exact wpIn_ret ⟨rfl, i, Emb.Le.refl _, h2, h3, h4⟩
  | goto l => simp [stepCode] at hs
  | region id ops d =>
    simp only [stepCode] at hs
    cases d with
    | false =>
      simp only [cond_false] at hs
      have hok := hrec _ _ hs
      cases out with
      | val v h2 => exact hok.elim
      | code x ds' e' h' =>
        obtain ⟨rfl, hok⟩ := hok
        refine plain (by simp) fun c' F i r a w h1 h2 h3 h4 h5 => ?_
        cases h1
        refine wpIn_region_list ?_
        have := hok F i r a w h2 h3 h4 _ (fun _ _ g => g)
        simpa using this
    | true =>
      simp only [cond_true] at hs
      cases hp : plan C ops.toList with
      | none => rw [hp] at hs; simp at hs
      | some l =>
        rw [hp] at hs
        have hok := hrec _ _ hs
        cases out with
        | val v h2 => exact hok.elim
        | code x ds' e' h' =>
          obtain ⟨rfl, rfl, hok⟩ := hok
          refine plain (by simp) fun c' F i r a w h1 h2 h3 h4 h5 => ?_
          cases h1
          exact hdr id ops l ds' e h e' h' hp hok F i r a w h2 h3 h4
  | seq x y =>
    simp only [stepCode] at hs
    cases hr : rec (.code ro x ds e h) with
    | none => rw [hr] at hs; simp at hs
    | some o1 =>
      rw [hr] at hs
      have h1 := hrec _ _ hr
      cases o1 with
      | val v h2 => exact h1.elim
      | code x1 ds1 e1 h1' =>
        cases x1 with
        | normal =>
          simp only at hs
          have h2 := hrec _ _ hs
          cases out with
          | val v h2 => exact h2.elim
          | code x2 ds2 e2 h2' =>
            refine plain (by simp) fun c' F i r a w g1 g2 g3 g4 g5 => ?_
            cases g1 with
            | seq ga gb =>
              refine wpIn_seq (wpIn_mono (h1 _ F i r a w ga g2 g3 g4 g5).1 ?_)
              rintro x' a1 w1 ⟨rfl, j, hj, R1, E1, D1⟩
              exact wpIn_mono (h2 _ F j r a1 w1 gb R1 E1 D1 (g5.mono hj)).1 fun e a w g => g.le hj
        | ret =>
          simp only [Option.some.injEq] at hs; subst hs
          refine plain (by simp) fun c' F i r a w g1 g2 g3 g4 g5 => ?_
          cases g1 with
          | seq ga gb =>
            refine wpIn_seq (wpIn_mono (h1 _ F i r a w ga g2 g3 g4 g5).1 ?_)
            rintro x' a1 w1 ⟨rfl, g⟩
            exact ⟨rfl, g⟩
        | exit id =>
          simp only [Option.some.injEq] at hs; subst hs
          refine plain (by simp) fun c' F i r a w g1 g2 g3 g4 g5 => ?_
          cases g1 with
          | seq ga gb =>
            refine wpIn_seq (wpIn_mono (h1 _ F i r a w ga g2 g3 g4 g5).1 ?_)
            rintro x' a1 w1 ⟨rfl, g⟩
            exact ⟨rfl, g⟩
  | cond b x y =>
    simp only [stepCode] at hs
    split at hs
    · rename_i hb
      have h1 := hrec _ _ hs
      cases out with
      | val v h2 => exact h1.elim
      | code x1 ds1 e1 h1' =>
        refine plain (by simp) fun c' F i r a w g1 g2 g3 g4 g5 => ?_
        cases g1 with
        | cond ga gb =>
          have := opd_ok g3 hb
          simp only [VRel] at this
          exact wpIn_cond_true this (h1 _ F i r a w ga g2 g3 g4 g5).1
    · rename_i hb
      have h1 := hrec _ _ hs
      cases out with
      | val v h2 => exact h1.elim
      | code x1 ds1 e1 h1' =>
        refine plain (by simp) fun c' F i r a w g1 g2 g3 g4 g5 => ?_
        cases g1 with
        | cond ga gb =>
          have := opd_ok g3 hb
          simp only [VRel] at this
          exact wpIn_cond_false this (h1 _ F i r a w gb g2 g3 g4 g5).1
    · exact absurd hs (by simp)
  | block id x =>
    simp only [stepCode] at hs
    cases hr : rec (.code ro x ds e h) with
    | none => rw [hr] at hs; simp at hs
    | some o1 =>
      rw [hr] at hs
      have h1 := hrec _ _ hr
      cases o1 with
      | val v h2 => exact h1.elim
      | code x1 ds1 e1 h1' =>
        cases x1 with
        | normal =>
          simp only [Option.some.injEq] at hs; subst hs
          refine plain (by simp) fun c' F i r a w g1 g2 g3 g4 g5 => ?_
          cases g1 with
          | block ga =>
            refine wpIn_block (wpIn_mono (h1 _ F i r a w ga g2 g3 g4 g5).1 ?_)
            rintro x' a1 w1 ⟨rfl, g⟩
            exact ⟨rfl, g⟩
        | ret =>
          simp only [Option.some.injEq] at hs; subst hs
          refine plain (by simp) fun c' F i r a w g1 g2 g3 g4 g5 => ?_
          cases g1 with
          | block ga =>
            refine wpIn_block (wpIn_mono (h1 _ F i r a w ga g2 g3 g4 g5).1 ?_)
            rintro x' a1 w1 ⟨rfl, g⟩
            exact ⟨rfl, g⟩
        | exit id' =>
          simp only [Option.some.injEq] at hs; subst hs
          refine plain (by simp) fun c' F i r a w g1 g2 g3 g4 g5 => ?_
          cases g1 with
          | block ga =>
            refine wpIn_block (wpIn_mono (h1 _ F i r a w ga g2 g3 g4 g5).1 ?_)
            rintro x' a1 w1 ⟨rfl, g⟩
            simp only [exitOf, Exit.inBlock, cond_beq]
            split
            · exact ⟨rfl, g⟩
            · exact ⟨rfl, g⟩
  | loop x =>
    simp only [stepCode] at hs
    have main : ∀ {x2 ds2 e2 h2'}, (∀ (c' : Code) (F : Fr) (i : Emb) (r : Option Nat) (a : Act) (w : World), CR S x c' → Rel S F i h.get h.next w → ERel i e a.tmps → DRel i ds a.defers → RoRel i ro r →
        LoopIn r C.P c' (Behind S F i x2 ds2 e2 h2') a w) → CodeOk C S ro (.loop x) ds e h x2 ds2 e2 h2' := by
      intro x2 ds2 e2 h2' hw c' F i r a w g1 g2 g3 g4 g5
      cases g1 with
      | loop ga =>
        refine ⟨loopIn_wp (hw _ F i r a w ga g2 g3 g4 g5), fun d d' hd hd' => ?_⟩
        cases hd'
        exact hw _ F i r a w ga g2 g3 g4 g5
    cases hr : rec (.code ro x ds e h) with
    | none => rw [hr] at hs; simp at hs
    | some o1 =>
      rw [hr] at hs
      have h1 := hrec _ _ hr
      cases o1 with
      | val v h2 => exact h1.elim
      | code x1 ds1 e1 h1' =>
        cases x1 with
        | normal =>
          simp only at hs
          have h2 := hrec _ _ hs
          cases out with
          | val v h2 => exact h2.elim
          | code x2 ds2 e2 h2' =>
            refine main fun c' F i r a w ga g2 g3 g4 g5 => ?_
            refine loopIn_of (wpIn_mono (h1 _ F i r a w ga g2 g3 g4 g5).1 ?_)
            rintro x' a1 w1 ⟨rfl, j, hj, R1, E1, D1⟩
            have := (h2 _ F j r a1 w1 (.loop ga) R1 E1 D1 (g5.mono hj)).2 _ _ rfl rfl
            intro b k cs hro
            obtain ⟨e, a', w', hq, harr⟩ := this b k cs hro
            exact ⟨e, a', w', hq.le hj, harr⟩
        | ret =>
          simp only [Option.some.injEq] at hs; subst hs
          refine main fun c' F i r a w ga g2 g3 g4 g5 => ?_
          refine loopIn_of (wpIn_mono (h1 _ F i r a w ga g2 g3 g4 g5).1 ?_)
          rintro x' a1 w1 ⟨rfl, g⟩
          exact ⟨rfl, g⟩
        | exit id =>
          simp only [Option.some.injEq] at hs; subst hs
          refine main fun c' F i r a w ga g2 g3 g4 g5 => ?_
          refine loopIn_of (wpIn_mono (h1 _ F i r a w ga g2 g3 g4 g5).1 ?_)
          rintro x' a1 w1 ⟨rfl, g⟩
          exact ⟨rfl, g⟩
  | scope x =>
    simp only [stepCode] at hs
    have h1 := hrec _ _ hs
    cases out with
    | val v h2 => exact h1.elim
    | code x1 ds1 e1 h1' =>
      refine plain (by simp) fun c' F i r a w g1 g2 g3 g4 g5 => ?_
      cases g1 with
      | scope ga =>
        refine wpIn_scope (wpIn_mono (h1 _ F i r a w ga g2 g3 g4 g5).1 ?_)
        rintro x' a1 w1 ⟨rfl, g⟩
        cases x1 <;> exact ⟨rfl, g⟩
  | rangeFunc f ps assign body =>
    simp only [stepCode] at hs
    obtain ⟨x, ds', e', h', rfl, hok⟩ := hra _ _ _ _ _ _ _ _ _ hs
    refine plain (by simp) fun c' F i r a w g1 g2 g3 g4 g5 => ?_
    cases g1 with
    | range ga gb => exact hok _ _ F i r a w ga gb g2 g3 g4 g5
  | refuse s =>
    simp only [stepCode] at hs
    cases hcn : C.cname s with
    | some c =>
      rw [hcn] at hs
      have hok := hrec _ _ hs
      cases out with
      | val v h2 => exact hok.elim
      | code x ds' e' h' =>
        refine plain (by simp) fun c' F i r a w g1 g2 g3 g4 g5 => ?_
        cases g1 with
        | sum hS => exact (hok c' F i r a w (hnm s c hcn c' hS) g2 g3 g4 g5).1
    | none =>
    rw [hcn] at hs
    simp only at hs
    cases ro with
    | some l => simp at hs
    | none =>
      cases hg : C.csum s with
      | none => rw [hg] at hs; simp at hs
      | some g =>
        rw [hg] at hs
        simp only at hs
        cases hr : g rec ds e h with
        | none => rw [hr] at hs; simp at hs
        | some p =>
          obtain ⟨e', h'⟩ := p
          rw [hr] at hs
          simp only [Option.some.injEq] at hs; subst hs
          refine plain (by simp) fun c' F i r a w g1 g2 g3 g4 g5 => ?_
          simp only [RoRel] at g5; subst g5
          cases g1 with
          | sum hS => exact hcs s g hg rec hrec ds e h e' h' hr c' hS F i a w g2 g3 g4

end
end
end Go.Ev
