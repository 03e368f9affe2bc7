/-
  EvJob: what a job of the evaluator stands for. No condition.
-/
import Derived.Test.YtmmaneofdfbllaaGreatEvWrB
import Derived.RangeFuncLeaves
import Derived.RangeFuncCalls
import Derived.OrdersIn
import Derived.TacticsIn
set_option linter.unusedVariables false
set_option linter.unusedSimpArgs false
set_option linter.unusedSectionVars false
namespace Go.Ev
noncomputable section

/-! ### The fence -/

def fc (r : Option Nat) : Fence := { Fence.wide with round := r }
theorem fc_room (r : Option Nat) (n : Nat) : (fc r).room n := fun _ h => by simp [fc, Fence.wide] at h
theorem fc_fenced (r : Option Nat) (P : Program) (m : Machine) : m.fenced P (fc r) := fenced_wide P m
theorem fc_deep (r : Option Nat) (n : Nat) : (fc r).depth.isSome = true → 1 ≤ n := fun h => by simp [fc, Fence.wide] at h

/-! ### What a job stands for -/

def DRel (i : Emb) : List Nat → List Deferred → Prop
  | [], ds => ds = []
  | b :: l, ds => ∃ c ds', i b = some c ∧ ds = { target := .collected c.1, args := #[] } :: ds' ∧ DRel i l ds'
theorem DRel.mono {i j : Emb} (h : i.Le j) : ∀ {l : List Nat} {ds : List Deferred}, DRel i l ds → DRel j l ds
  | [], _, g => g
  | _ :: _, _, g => by obtain ⟨c, ds', h1, h2, h3⟩ := g; exact ⟨c, ds', h _ _ h1, h2, DRel.mono h h3⟩
def RoRel (i : Emb) : Option Nat → Option Nat → Prop
  | none, r => r = none
  | some b, r => ∃ c, i b = some c ∧ r = some c.1
theorem RoRel.mono {i j : Emb} (h : i.Le j) {ro r : Option Nat} (g : RoRel i ro r) : RoRel j ro r := by
  cases ro with
  | none => exact g
  | some b => obtain ⟨c, h1, h2⟩ := g; exact ⟨c, h _ _ h1, h2⟩

def exitOf : Ex → Exit
  | .normal => .normal
  | .ret => .ret
  | .exit id => .exit id

section
variable (S : String → Code → Prop) (F : Fr) (i : Emb)
/-- Where code has come to. -/
def Behind (x : Ex) (ds : List Nat) (e : Env) (h : Heap) (x' : Exit) (a : Act) (w : World) : Prop :=
  x' = exitOf x ∧ ∃ j : Emb, i.Le j ∧ Rel S F j h.get h.next w ∧ ERel j e a.tmps ∧ DRel j ds a.defers
/-- Where a call has come to. -/
def After (v : AV) (h : Heap) (x : Value) (w : World) : Prop := ∃ j : Emb, i.Le j ∧ VRel j v x ∧ Rel S F j h.get h.next w
def onValue (R : Value → World → Prop) : Ending → World → Prop
  | .returned x, w => R x w
  | _, _ => False
/-- A call goes through. -/
def CallOk (P : Program) (f : FuncId) (vs : Array Value) (w : World) (R : Value → World → Prop) : Prop :=
  (∃ fn, P.funcs[f]? = some fn ∧ (fn.name == "runtime.NumGoroutine") = false ∧ fn.body.isNone = false ∧ CallsIn (fc none) 0 P f vs w (onValue R)) ∨
  (∃ x w', (callFunc f vs).run P w = .ok (.value x) w' ∧ R x w')
end

/-- A loop's rounds. -/
def LoopIn (r : Option Nat) (P : Program) (c : Code) (Q : Exit → Act → World → Prop) (a : Act) (w : World) : Prop :=
  ∀ (b : Frame) (k : List Item) (cs : List Frame), b.roundOf = r →
    ∃ e a' w', Q e a' w' ∧ ArrivesIn (Machine.fenced P (fc r)) P (lone (b.atR a (.code c :: .inLoop c :: k)) cs w) b k cs e a' w'

def CodeOk (C : Ctx) (S : String → Code → Prop) (ro : Option Nat) (c : Code) (ds : List Nat) (e : Env) (h : Heap) (x : Ex) (ds' : List Nat) (e' : Env) (h' : Heap) : Prop :=
  ∀ (c' : Code) (F : Fr) (i : Emb) (r : Option Nat) (a : Act) (w : World), CR S c c' → Rel S F i h.get h.next w → ERel i e a.tmps → DRel i ds a.defers → RoRel i ro r →
    c'.wpIn (fc r) 0 C.P (Behind S F i x ds' e' h') a w ∧ ∀ d d', c = .loop d → c' = .loop d' → LoopIn r C.P d' (Behind S F i x ds' e' h') a w

def ValOk (C : Ctx) (S : String → Code → Prop) (f : FuncId) (args : List AV) (h : Heap) (v : AV) (h' : Heap) : Prop :=
  ∀ (F : Fr) (i : Emb) (vs : List Value) (w : World), Rel S F i h.get h.next w → VRels i args vs → CallOk C.P f vs.toArray w (After S F i v h')

def RoundOk (C : Ctx) (S : String → Code → Prop) (l : Nat) (args : List AV) (h : Heap) (v : AV) (h' : Heap) : Prop :=
  ∀ (F : Fr) (i : Emb) (vs : List Value) (w : World) (c : Nat × Nat), Rel S F i h.get h.next w → VRels i args vs → i l = some c →
    ∃ fn tmps assign body, (Instr.yield c.1 vs.toArray).run C.P w = .ok (.round c.1 fn tmps assign body) w ∧ RoundIn (fc none) 0 C.P c.1 fn tmps assign body w (onValue (After S F i v h'))

/-- A heavy operation of a region that draws. -/
def HeavyOk (C : Ctx) (S : String → Code → Prop) (e : Env) (g : Heap) (o : Oper) (v : AV) (g' : Heap) : Prop :=
  ∀ (e₂ : Env), e₂.n = e.n → (∀ x ∈ o.op.operands.toList, opd e₂ x = opd e x) → ∀ (F : Fr) (i : Emb) (r : Option Nat) (a : Act) (w : World), Rel S F i g.get g.next w → ERel i e₂ a.tmps →
    ∀ (next : Act → World → Prop) (Q : Exit → Act → World → Prop), (∀ (j : Emb) (x : Value) (w' : World), i.Le j → VRel j v x → Rel S F j g'.get g'.next w' → next (a.put o.dst x) w') → o.wpIn (fc r) 0 C.P a w next Q

/-- The evaluator's way through a region that draws. -/
inductive DrawT (C : Ctx) (S : String → Code → Prop) (all : List Oper) : Env → Heap → Heap → List Heap → List (Op × Env × Nat × Nat × AV) → List (Oper × Nat × Nat) → Env → Heap → Prop where
  | done {e s g sts rds} : readsOk C sts.reverse rds = true → DrawT C S all e s g sts rds [] e g
  | noHeavy {e s g sts rds o lo hi l e' h'} : wanted all e o = some false → isHeavy (kindOf C o.op) = true → DrawT C S all (e.put o.dst (.tup [])) g g (g :: sts) rds l e' h' →
      DrawT C S all e s g sts rds ((o, lo, hi) :: l) e' h'
  | noLight {e s g sts rds o lo hi l e' h'} : wanted all e o = some false → isHeavy (kindOf C o.op) = false → DrawT C S all (e.put o.dst (.tup [])) s g sts rds l e' h' →
      DrawT C S all e s g sts rds ((o, lo, hi) :: l) e' h'
  | val {e s g sts rds o lo hi l e' h' v} : wanted all e o = some true → opEval C e s g o.op = .val v → DrawT C S all (e.put o.dst v) s g sts rds l e' h' →
      DrawT C S all e s g sts rds ((o, lo, hi) :: l) e' h'
  | rd {e s g sts rds o lo hi l e' h' v} : wanted all e o = some true → opEval C e s g o.op = .rd v →
      DrawT C S all (e.put o.dst v) s g sts (bif lo.blt hi then (o.op, e, lo, hi, v) :: rds else rds) l e' h' → DrawT C S all e s g sts rds ((o, lo, hi) :: l) e' h'
  | new {e s g sts rds o lo hi l e' h' ob mk} : wanted all e o = some true → opEval C e s g o.op = .new ob mk → DrawT C S all (e.put o.dst (mk g.next)) s (g.add ob) sts rds l e' h' →
      DrawT C S all e s g sts rds ((o, lo, hi) :: l) e' h'
  | heavy {e s g sts rds o lo hi l e' h' v g'} : wanted all e o = some true → isHeavy (kindOf C o.op) = true → HeavyOk C S e g o v g' → g.next ≤ g'.next → DrawT C S all (e.put o.dst v) g' g' (g' :: sts) rds l e' h' →
      DrawT C S all e s g sts rds ((o, lo, hi) :: l) e' h'

def JobOk (C : Ctx) (S : String → Code → Prop) : Job → Out → Prop
  | .code ro c ds e h, .code x ds' e' h' => CodeOk C S ro c ds e h x ds' e' h'
  | .ops all l ds e h, .code x ds' e' h' => x = .normal ∧ ∀ (F : Fr) (i : Emb) (r : Option Nat) (a : Act) (w : World), Rel S F i h.get h.next w → ERel i e a.tmps → DRel i ds a.defers →
      ∀ Q : Exit → Act → World → Prop, (∀ a' w', Behind S F i .normal ds' e' h' .normal a' w' → Q .normal a' w') → wpListIn (fc r) 0 C.P all.toArray Q l a w
  | .draw all l ds e s g sts rds, .code x ds' e' h' => x = .normal ∧ ds' = ds ∧ DrawT C S all e s g sts rds l e' h'
  | .call f args h, .val v h' => ValOk C S f args h v h'
  | .round l args h, .val v h' => RoundOk C S l args h v h'
  | _, _ => False

def RecOk (C : Ctx) (S : String → Code → Prop) (rec : Job → Option Out) : Prop := ∀ j out, rec j = some out → JobOk C S j out

/-! ### One operation -/
section
variable {C : Ctx} {S : String → Code → Prop} {F : Fr} {i : Emb} {w : World} {rec : Job → Option Out}

theorem wanted_ok {ops : List Oper} {e : Env} {a : Act} (g : ERel i e a.tmps) {o : Oper} {b : Bool} (h : wanted ops e o = some b) : Region.wanted o (yielded ops.toArray a.tmps) = b := by
  unfold wanted at h
  unfold Region.wanted
  split at h
  · rename_i hg; rw [hg]; simpa using h
  · rename_i j wt hg
    rw [hg]
    split at h
    · rename_i p hp
      split at h
      · rename_i d hd
        split at h
        · rename_i b' hb
          have := g.2 d
          rw [hb] at this
          simp only [VRel] at this
          simp only [yielded, List.getElem?_toArray, hp, Option.bind_some, hd]
          have h2 : a.tmps[d]? = some (.bool b') := by
            rw [Array.getD_eq_getD_getElem?] at this
            cases hx : a.tmps[d]? with
            | none => rw [hx] at this; simp [undef] at this
            | some y => rw [hx] at this; simpa using this
          rw [h2]
          simp only [Option.some.injEq] at h
          rw [← h]
          cases b' <;> cases wt <;> rfl
        · rename_i hb
          have := g.2 d
          rw [hb] at this
          simp only [VRel] at this
          obtain ⟨l', hl', hx⟩ := this
          have hl : l' = [] := by cases l' with | nil => rfl | cons _ _ => simp [VRels] at hl'
          subst hl
          simp only [yielded, List.getElem?_toArray, hp, Option.bind_some, hd]
          simp only [Option.some.injEq] at h
          rw [← h, Array.getD_eq_getD_getElem?] at *
          cases hy : a.tmps[d]? with
          | none => rfl
          | some y => rw [hy] at hx; simp only [Option.getD_some] at hx; subst hx; rfl
        · exact absurd h (by simp)
      · exact absurd h (by simp)
    · exact absurd h (by simp)

theorem fn_ok {e : Env} {a : Act} (g : ERel i e a.tmps) {o : Oper} {s gg : Heap} {f : FuncId} {l : List AV} (h : opEval C e s gg o.op = .fn f l) :
    ∃ vs, VRels i l vs ∧ (execOp a.eval o).run C.P w = (callFunc f vs.toArray).run C.P w := by
  obtain ⟨dst, op, type, pos, after, guard⟩ := o
  simp only at h
  have hk := kind_fn h
  cases op <;> simp only [opEval] at h <;> simp only [execOp]
  case call c =>
    obtain ⟨callee, args, argTypes⟩ := c
    cases callee with
    | invoke r m => simp only [callR] at h; cases h
    | builtin b => cases b <;> simp [kindOf] at hk
    | value fv =>
      simp only [callR] at h
      unfold calledR at h
      split at h
      · rename_i f' first caps hf
        split at h
        · rename_i vl hl
          simp only [OpR.fn.injEq] at h; obtain ⟨rfl, rfl⟩ := h
          have gf := opd_ok g hf
          simp only [VRel] at gf
          obtain ⟨l', m', g1, g2, ef⟩ := gf
          have gl := opdsU_ok g hl
          refine ⟨l' ++ (args.toList.map a.eval ++ m'), g1.append (gl.append g2), ?_⟩
          have e1 : args.map a.eval = (args.toList.map a.eval).toArray := amap _ _
          simp only [resolve, ef, Deferred.ofValue, Sem.run_bind, Sem.run_pure, Result.andThen_ok, invoke, e1]
          congr 2
          apply Array.ext'
          simp [List.append_assoc]
        · cases h
      · split at h <;> cases h
      · cases h
  all_goals
    first
      | (cases h; done)
      | (exfalso; simp [kindOf] at hk; done)
      | (exfalso; revert hk; simp only [kindOf]; split <;> simp; done)

theorem yield_ok {e : Env} {a : Act} (g : ERel i e a.tmps) {o : Oper} {s gg : Heap} {f : Nat} {l : List AV} (h : opEval C e s gg o.op = .yield f l) :
    ∃ vs c, VRels i l vs ∧ i f = some c ∧ (execOp a.eval o).run C.P w = (Instr.yield c.1 vs.toArray).run C.P w := by
  obtain ⟨dst, op, type, pos, after, guard⟩ := o
  simp only at h
  have hk := kind_yield h
  cases op <;> simp only [opEval] at h <;> simp only [execOp]
  case call c =>
    obtain ⟨callee, args, argTypes⟩ := c
    cases callee with
    | invoke r m => simp only [callR] at h; cases h
    | builtin b => cases b <;> simp [kindOf] at hk
    | value fv =>
      simp only [callR] at h
      unfold calledR at h
      split at h
      · split at h <;> cases h
      · rename_i k hf
        split at h
        · rename_i vl hl
          simp only [OpR.yield.injEq] at h; obtain ⟨rfl, rfl⟩ := h
          have gf := opd_ok g hf
          simp only [VRel] at gf
          obtain ⟨c, g1, ef⟩ := gf
          have gl := opdsU_ok g hl
          refine ⟨args.toList.map a.eval, c, gl, g1, ?_⟩
          have e1 : args.map a.eval = (args.toList.map a.eval).toArray := amap _ _
          simp only [resolve, ef, Deferred.ofValue, Sem.run_bind, Sem.run_pure, Result.andThen_ok, invoke, e1]
          congr 2
          apply Array.ext'
          simp
        · cases h
      · cases h
  all_goals
    first
      | (cases h; done)
      | (exfalso; simp [kindOf] at hk; done)
      | (exfalso; revert hk; simp only [kindOf]; split <;> simp; done)

theorem noDefer {e : Env} {s gg : Heap} {op : Op} (h : opEval C e s gg op ≠ .bad) : ∀ c, op ≠ .defer c := by
  rintro c rfl; exact h rfl

theorem run_callFunc {P : Program} {f : FuncId} {fn : Func} (hf : P.funcs[f]? = some fn) (hn : (fn.name == "runtime.NumGoroutine") = false) (hb : fn.body.isNone = false) (vs : Array Value) :
    (callFunc f vs).run P w = .ok (.enter f vs) w := by
  simp only [callFunc, Sem.run_bind, run_program, Result.andThen_ok, hf, hn, hb, Bool.false_eq_true, if_false, Sem.run_pure]

/-- A value, by an operation of whatever kind. -/
theorem value_ok {P : Program} {a : Act} {o : Oper} {r : Option Nat} {next : Act → World → Prop} {Q : Exit → Act → World → Prop} {x : Value} {w' : World} (hd : ∀ c, o.op ≠ .defer c)
    (h : (execOp a.eval o).run P w = .ok (.value x) w') (hn : next (a.put o.dst x) w') : o.wpIn (fc r) 0 P a w next Q := by
  refine ⟨fun _ _ => trivial, ?_⟩
  rw [Oper.semAt_eq _ _ _ hd, h]
  exact hn

theorem heavy_ok (hC : C.Tab) (hrec : RecOk C S rec) {s g : Heap} (R : Rel S F i g.get g.next w) {e : Env} {a : Act} (gE : ERel i e a.tmps) {o : Oper} {v : AV} {h' : Heap} {r : Option Nat} {res : OpR}
    (hop : opEval C e s g o.op = res) (hne : (∀ v, res ≠ .val v) ∧ (∀ v, res ≠ .rd v) ∧ ∀ ob mk, res ≠ .new ob mk) (hd : doR rec g res = some (v, h')) {next : Act → World → Prop} {Q : Exit → Act → World → Prop}
    (hn : ∀ (j : Emb) (x : Value) (w' : World), i.Le j → VRel j v x → Rel S F j h'.get h'.next w' → next (a.put o.dst x) w') : o.wpIn (fc r) 0 C.P a w next Q := by
  cases res with
  | val v => exact absurd rfl (hne.1 v)
  | rd v => exact absurd rfl (hne.2.1 v)
  | new ob mk => exact absurd rfl (hne.2.2 ob mk)
  | bad => simp [doR] at hd
  | wr v2 h2 =>
    have hde := noDefer (C := C) (e := e) (s := s) (gg := g) (op := o.op) (by rw [hop]; simp)
    simp only [doR, Option.some.injEq, Prod.mk.injEq] at hd; obtain ⟨rfl, rfl⟩ := hd
    obtain ⟨x, w', j, hx, hj, gv, R'⟩ := wr_ok hC R gE hop
    rcases hx with hx | ⟨hx, rfl⟩
    · exact value_ok hde hx (hn j x w' hj gv R')
    · refine ⟨fun _ _ => trivial, ?_⟩
      rw [Oper.semAt_eq _ _ _ hde, hx]
      exact hn j _ w' hj gv R'
  | fn f l =>
    have hde := noDefer (C := C) (e := e) (s := s) (gg := g) (op := o.op) (by rw [hop]; simp)
    simp only [doR] at hd
    cases hr : rec (.call f l g) with
    | none => rw [hr] at hd; simp [called] at hd
    | some out =>
      rw [hr] at hd
      have hok := hrec _ _ hr
      cases out with
      | code x ds e h => simp [called] at hd
      | val v2 h2 =>
        simp only [called, Option.some.injEq, Prod.mk.injEq] at hd; obtain ⟨rfl, rfl⟩ := hd
        obtain ⟨vs, gv, hx⟩ := fn_ok (w := w) gE hop
        refine ⟨fun _ _ => trivial, ?_⟩
        rw [Oper.semAt_eq _ _ _ hde, hx]
        rcases hok F i vs w R gv with ⟨fn, h1, hnm, h3, h4⟩ | ⟨x, w', h1, j, hj, gx, R'⟩
        · rw [run_callFunc h1 hnm h3]
          refine ⟨fc_deep r 0, CallsIn.mono (R := onValue (After S F i v2 h2)) h4 fun e w'' he => ?_⟩
          cases e with
          | returned x => obtain ⟨j, hj, gx, R'⟩ := he; exact hn j x w'' hj gx R'
          | panicked c => exact he.elim
          | outgrown => exact he.elim
        · rw [h1]; exact hn j x w' hj gx R'
  | yield f l =>
    have hde := noDefer (C := C) (e := e) (s := s) (gg := g) (op := o.op) (by rw [hop]; simp)
    simp only [doR] at hd
    cases hr : rec (.round f l g) with
    | none => rw [hr] at hd; simp [called] at hd
    | some out =>
      rw [hr] at hd
      have hok := hrec _ _ hr
      cases out with
      | code x ds e h => simp [called] at hd
      | val v2 h2 =>
        simp only [called, Option.some.injEq, Prod.mk.injEq] at hd; obtain ⟨rfl, rfl⟩ := hd
        obtain ⟨vs, c, gv, hc, hx⟩ := yield_ok (w := w) gE hop
        refine ⟨fun _ _ => trivial, ?_⟩
        rw [Oper.semAt_eq _ _ _ hde, hx]
        obtain ⟨fn, tmps, assign, body, h1, hro⟩ := hok F i vs w c R gv hc
        rw [h1]
        refine ⟨fc_deep r 0, RoundIn.mono (R := onValue (After S F i v2 h2)) hro fun e w'' he => ?_⟩
        cases e with
        | returned x => obtain ⟨j, hj, gx, R'⟩ := he; exact hn j x w'' hj gx R'
        | panicked c => exact he.elim
        | outgrown => exact he.elim

theorem oper_ok (hC : C.Tab) (hrec : RecOk C S rec) {h : Heap} (R : Rel S F i h.get h.next w) {e : Env} {a : Act} (gE : ERel i e a.tmps) {o : Oper} {v : AV} {h' : Heap} {r : Option Nat}
    (hd : doR rec h (opEval C e h h o.op) = some (v, h')) {next : Act → World → Prop} {Q : Exit → Act → World → Prop}
    (hn : ∀ (j : Emb) (x : Value) (w' : World), i.Le j → VRel j v x → Rel S F j h'.get h'.next w' → next (a.put o.dst x) w') : o.wpIn (fc r) 0 C.P a w next Q := by
  cases hop : opEval C e h h o.op with
  | val v2 =>
    rw [hop] at hd
    simp only [doR, Option.some.injEq, Prod.mk.injEq] at hd; obtain ⟨rfl, rfl⟩ := hd
    have hde := noDefer (C := C) (e := e) (s := h) (gg := h) (op := o.op) (by rw [hop]; simp)
    obtain ⟨x, hx, gv⟩ := val_ok hC w gE hop
    exact value_ok hde hx (hn i x w (Emb.Le.refl _) gv R)
  | rd v2 =>
    rw [hop] at hd
    simp only [doR, Option.some.injEq, Prod.mk.injEq] at hd; obtain ⟨rfl, rfl⟩ := hd
    have hde := noDefer (C := C) (e := e) (s := h) (gg := h) (op := o.op) (by rw [hop]; simp)
    obtain ⟨x, hx, gv⟩ := rd_ok hC R.objs gE hop
    exact value_ok hde hx (hn i x w (Emb.Le.refl _) gv R)
  | new ob mk =>
    rw [hop] at hd
    simp only [doR, Option.some.injEq, Prod.mk.injEq] at hd; obtain ⟨rfl, rfl⟩ := hd
    have hde := noDefer (C := C) (e := e) (s := h) (gg := h) (op := o.op) (by rw [hop]; simp)
    obtain ⟨m, hm, x, w', O, tot, h1, h2, h3, h4, h5, h6, h7⟩ := new_ok (S := S) (w := w) hC gE hop
    have hfresh := R.fresh h.next (Nat.le_refl _)
    obtain ⟨gv, gO⟩ := h7 (i.upd h.next (w.heap.size, tot)) h.next (Emb.le_upd hfresh.1 _) (Emb.upd_same _ _ _)
    refine value_ok (x := x) (w' := w') hde (by rw [hm]; simp only [Sem.run_bind, h1, Result.andThen_ok, Sem.run_pure]) (hn _ x w' (Emb.le_upd hfresh.1 (w.heap.size, tot)) gv ?_)
    rw [Heap.get_add']
    exact R.add hfresh.1 hfresh.2 (Nat.lt_succ_self _) (Nat.le_succ _) h2 h3 h4 h5 h6 gO
  | wr v2 h2 => exact heavy_ok hC hrec R gE (s := h) hop ⟨by simp, by simp, by simp⟩ (by rw [← hop]; exact hd) hn
  | fn f l => exact heavy_ok hC hrec R gE (s := h) hop ⟨by simp, by simp, by simp⟩ (by rw [← hop]; exact hd) hn
  | yield f l => exact heavy_ok hC hrec R gE (s := h) hop ⟨by simp, by simp, by simp⟩ (by rw [← hop]; exact hd) hn
  | bad => rw [hop] at hd; simp [doR] at hd

end
end
end Go.Ev
