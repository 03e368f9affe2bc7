/-
  EvFast: the quick evaluator is sound. No condition.
-/
import Derived.Test.YtmmaneofdfbllaaGreatEvDefs
import Derived.Test.YtmmaneofdfbllaaGreatEvFin
set_option linter.unusedVariables false
set_option linter.unusedSimpArgs false
set_option linter.unusedSectionVars false
namespace Go.Ev
noncomputable section

inductive KV where
  | mk (f : Env → Option AV)
inductive KO where
  | mk (f : Env → Heap → Heap → OpR)
inductive KL where
  | mk (f : (Job → Option Out) → List Nat → Env → Heap → Option Out)
inductive KC where
  | mk (f : (Job → Option Out) → Option Nat → List Nat → Env → Heap → Option Out)
inductive KD where
  | mk (f : (Job → Option Out) → List Nat → Env → Heap → Heap → List Heap → List (Op × Env × Nat × Nat × AV) → Option Out)
def KV.app (k : KV) (e : Env) : Option AV := KV.rec (motive := fun _ => Option AV) (fun f => f e) k
def KO.app (k : KO) (e : Env) (s g : Heap) : OpR := KO.rec (motive := fun _ => OpR) (fun f => f e s g) k
def KL.app (k : KL) (rec : Job → Option Out) (ds : List Nat) (e : Env) (h : Heap) : Option Out := KL.rec (motive := fun _ => Option Out) (fun f => f rec ds e h) k
def KC.app (k : KC) (rec : Job → Option Out) (ro : Option Nat) (ds : List Nat) (e : Env) (h : Heap) : Option Out := KC.rec (motive := fun _ => Option Out) (fun f => f rec ro ds e h) k
def KD.app (k : KD) (rec : Job → Option Out) (ds : List Nat) (e : Env) (s g : Heap) (sts : List Heap) (rds : List (Op × Env × Nat × Nat × AV)) : Option Out := KD.rec (motive := fun _ => Option Out) (fun f => f rec ds e s g sts rds) k

/-! ### Operands, operations -/

def gotV (o : Option AV) : Option AV := Option.rec (motive := fun _ => Option AV) (some (.tup [])) (fun v => v.known) o
def opdF : Operand → KV
  | .tmp t => .mk fun e => Env.rec (motive := fun _ => Option AV) (fun _ tr => gotV (tr.getP (path t))) e
  | .const v => .mk fun _ => ofConst v
  | .global _ => .mk fun _ => none
  | .func f => .mk fun _ => some (.fn f [] [])
def opdUF : Operand → KV
  | .tmp t => .mk fun e => Env.rec (motive := fun _ => Option AV) (fun _ tr => Option.rec (motive := fun _ => Option AV) (some (.tup [])) (fun v => some v) (tr.getP (path t))) e
  | x => opdF x
inductive KVs where
  | mk (f : Env → Option (List AV))
def KVs.app (k : KVs) (e : Env) : Option (List AV) := KVs.rec (motive := fun _ => Option (List AV)) (fun f => f e) k
def consO (a : Option AV) (b : Option (List AV)) : Option (List AV) :=
  Option.rec (motive := fun _ => Option (List AV)) none (fun v => Option.rec (motive := fun _ => Option (List AV)) none (fun vs => some (v :: vs)) b) a
def opdsF (l : List Operand) : KVs := List.rec (motive := fun _ => KVs) (.mk fun _ => some []) (fun x _ ih => .mk fun e => consO ((opdF x).app e) (ih.app e)) l
def opdsUF (l : List Operand) : KVs := List.rec (motive := fun _ => KVs) (.mk fun _ => some []) (fun x _ ih => .mk fun e => consO ((opdUF x).app e) (ih.app e)) l
def callF (C : Ctx) (ts : List TypeId) (l : List Operand) : Callee → KO
  | .value f => .mk fun e _ _ => calledR ((opdsUF l).app e) ((opdF f).app e)
  | .builtin b => .mk fun e s g => builtinR C s g ts ((opdsF l).app e) b
  | .invoke _ _ => .mk fun _ _ _ => .bad
def opF (C : Ctx) : Op → KO
  | .move x => .mk fun e _ _ => asVal ((opdUF x).app e)
  | .assign x => .mk fun e _ _ => asVal ((opdUF x).app e)
  | .pick c a b => .mk fun e _ _ => asVal (pickAV e a b ((opdF c).app e))
  | .nilCheck x => .mk fun e _ _ => asVal (nilAV ((opdF x).app e))
  | .build t ps => .mk fun e _ _ => asVal (buildAV C e ps.toList (zeros C t) (C.und t))
  | .fieldAddr t x f => .mk fun e _ _ => asVal (fieldAddrAV C ((opdF x).app e) (fieldOf f (C.und t)))
  | .field t x f => .mk fun e _ _ => asVal (fieldAV C ((opdF x).app e) (fieldOf f (C.und t)))
  | .indexAddr t x i => .mk fun e _ _ => asVal (indexAddrAV C ((opdF x).app e) ((opdF i).app e) (C.und t))
  | .index t x i => .mk fun e _ _ => asVal (indexAV C ((opdF x).app e) ((opdF i).app e) (C.und t))
  | .binOp op t x y _ => .mk fun e _ _ => asVal (binOf C op t ((opdF x).app e) ((opdF y).app e))
  | .unOp op _ x => .mk fun e _ _ => asVal (unOf op ((opdF x).app e))
  | .convert src dst x => .mk fun e s g => convertR C s g src dst ((opdF x).app e) (C.und src) (C.und dst)
  | .makeFunc f l m => .mk fun e _ _ => makeFuncR ((opdsF l.toList).app e) ((opdsF m.toList).app e) f
  | .slice t x lo hi mx => .mk fun e _ _ => asVal (sliceOf C t ((opdF x).app e) (optOpd e lo) (optOpd e hi) (optOpd e mx))
  | .extract x i => .mk fun e _ _ => asVal (extractAV i ((opdF x).app e))
  | .load t x => .mk fun e s _ => asRd (loadOf C s t ((opdF x).app e))
  | .store t a x => .mk fun e _ g => storeR g (C.size t) ((opdF a).app e) ((opdF x).app e)
  | .call c => callF C c.argTypes.toList c.args.toList c.callee
  | op => .mk fun e s g => opEval C e s g op

/-! ### Lists of operations -/

def callK (k : AV → Heap → Option Out) (o : Option Out) : Option Out :=
  Option.rec (motive := fun _ => Option Out) none (fun o => Out.rec (motive := fun _ => Option Out) (fun _ _ _ _ => none) (fun v h => k v h) o) o
def contR (rec : Job → Option Out) (h : Heap) (k : AV → Heap → Option Out) (r : OpR) : Option Out :=
  OpR.rec (motive := fun _ => Option Out) (fun v => k v h) (fun v => k v h) (fun o mk => k (mk h.next) (h.add o)) (fun v h' => k v h')
    (fun f args => callK k (rec (.call f args h))) (fun l args => callK k (rec (.round l args h))) none r
/-- An environment with a value. -/
def putF (d : Option Tmp) (e : Env) (v : AV) : Env := Option.rec (motive := fun _ => Env) e
  (fun t => Env.rec (motive := fun _ => Env) (fun n tr => Bool.rec (motive := fun _ => Env) ⟨n, tr⟩ ⟨n, Tr.setP (some v) (path t) tr⟩ (Nat.ble (Nat.succ t) n)) e) d
def opsStep (C : Ctx) (all : List Oper) (o : Oper) (ih : KL) : KL :=
  match o.guard with
  | none => .mk fun rec ds e h => contR rec h (fun v h' => ih.app rec ds (putF o.dst e v) h') ((opF C o.op).app e h h)
  | some _ => .mk fun rec ds e h =>
    match wanted all e o with
    | some true => contR rec h (fun v h' => ih.app rec ds (putF o.dst e v) h') ((opF C o.op).app e h h)
    | some false => ih.app rec ds (putF o.dst e (.tup [])) h
    | none => none
def opsF (C : Ctx) (all l : List Oper) : KL :=
  List.rec (motive := fun _ => KL) (.mk fun _ ds e h => some (.code .normal ds e h)) (fun o _ ih => opsStep C all o ih) l

/-! ### Regions that draw -/

def drawStep (C : Ctx) (all : List Oper) (o : Oper) (lo hi : Nat) (ih : KD) : KD :=
  .mk fun rec ds e s g sts rds =>
    match wanted all e o with
    | some false =>
      bif isHeavy (kindOf C o.op) then ih.app rec ds (putF o.dst e (.tup [])) g g (g :: sts) rds
      else ih.app rec ds (putF o.dst e (.tup [])) s g sts rds
    | some true =>
      OpR.rec (motive := fun _ => Option Out) (fun v => ih.app rec ds (putF o.dst e v) s g sts rds)
        (fun v => ih.app rec ds (putF o.dst e v) s g sts (bif lo.blt hi then (o.op, e, lo, hi, v) :: rds else rds))
        (fun ob mk => ih.app rec ds (putF o.dst e (mk g.next)) s (g.add ob) sts rds)
        (fun v g' => bif g.next.ble g'.next then ih.app rec ds (putF o.dst e v) g' g' (g' :: sts) rds else none)
        (fun f args => callK (fun v g' => bif g.next.ble g'.next then ih.app rec ds (putF o.dst e v) g' g' (g' :: sts) rds else none) (rec (.call f args g)))
        (fun l args => callK (fun v g' => bif g.next.ble g'.next then ih.app rec ds (putF o.dst e v) g' g' (g' :: sts) rds else none) (rec (.round l args g)))
        none ((opF C o.op).app e s g)
    | none => none
def drawF (C : Ctx) (all : List Oper) (l : List (Oper × Nat × Nat)) : KD :=
  List.rec (motive := fun _ => KD) (.mk fun _ ds e _ g sts rds => bif readsOk C sts.reverse rds then some (.code .normal ds e g) else none)
    (fun x _ ih => Prod.rec (motive := fun _ => KD) (fun o p => Prod.rec (motive := fun _ => KD) (fun lo hi => drawStep C all o lo hi ih) p) x) l

/-! ### Code -/

def seqK (k : List Nat → Env → Heap → Option Out) (o : Option Out) : Option Out :=
  Option.rec (motive := fun _ => Option Out) none (fun o => Out.rec (motive := fun _ => Option Out)
    (fun x ds e h => Ex.rec (motive := fun _ => Option Out) (k ds e h) (fun id => some (.code (.exit id) ds e h)) (some (.code .ret ds e h)) x) (fun _ _ => none) o) o
def blockK (id : Nat) (o : Option Out) : Option Out :=
  Option.rec (motive := fun _ => Option Out) none (fun o => Out.rec (motive := fun _ => Option Out)
    (fun x ds e h => Ex.rec (motive := fun _ => Option Out) (some (.code .normal ds e h)) (fun id' => some (.code (bif id'.beq id then .normal else .exit id') ds e h)) (some (.code .ret ds e h)) x) (fun _ _ => none) o) o
def condK (a b : Option Out) (v : Option AV) : Option Out :=
  match v with
  | some (.bool true) => a
  | some (.bool false) => b
  | _ => none
def drawRegion (C : Ctx) (ops : List Oper) (p : Option (List (Oper × Nat × Nat))) : KC :=
  match p with
  | some l => .mk fun rec _ ds e h => (drawF C ops l).app rec ds e h h [h] []
  | none => .mk fun _ _ _ _ _ => none
def codeF (C : Ctx) (c : Code) : KC :=
  Code.rec (motive := fun _ => KC)
    (.mk fun _ _ ds e h => some (.code .normal ds e h)) -- skip
    (fun _ ops draw => Bool.rec (motive := fun _ => KC) (.mk fun rec _ ds e h => (opsF C ops.toList ops.toList).app rec ds e h) (drawRegion C ops.toList (plan C ops.toList)) draw)
    (fun _ _ iha ihb => .mk fun rec ro ds e h => seqK (fun ds' e' h' => ihb.app rec ro ds' e' h') (iha.app rec ro ds e h))
    (fun x _ _ iha ihb => .mk fun rec ro ds e h => condK (iha.app rec ro ds e h) (ihb.app rec ro ds e h) ((opdF x).app e))
    (fun id _ ih => .mk fun rec ro ds e h => blockK id (ih.app rec ro ds e h))
    (fun c ih => .mk fun rec ro ds e h => seqK (fun ds' e' h' => rec (.code ro (.loop c) ds' e' h')) (ih.app rec ro ds e h))
    (fun f ps a b _ _ => .mk fun rec ro ds e h => stepCode C rec ro ds e h (.rangeFunc f ps a b))
    (fun id => .mk fun _ _ ds e h => some (.code (.exit id) ds e h))
    (fun _ ih => .mk fun rec ro ds e h => ih.app rec ro ds e h)
    (fun _ => .mk fun _ _ ds e h => some (.code .normal ds e h)) -- label
    (fun _ => .mk fun _ _ _ _ _ => none) -- goto
    (.mk fun _ _ ds e h => some (.code .ret ds e h))
    (fun s => .mk fun rec ro ds e h => stepCode C rec ro ds e h (.refuse s)) c

def fastJob (C : Ctx) (rec : Job → Option Out) (j : Job) : Option Out :=
  Job.rec (motive := fun _ => Option Out)
    (fun ro c ds e h => (codeF C c).app rec ro ds e h)
    (fun all l ds e h => (opsF C all l).app rec ds e h)
    (fun all l ds e s g sts rds => (drawF C all l).app rec ds e s g sts rds)
    (fun f args h => stepCall C rec f args h)
    (fun l args h => stepRound rec l args h) j
def fast (C : Ctx) (n : Nat) : Job → Option Out := Nat.rec (motive := fun _ => Job → Option Out) (fun _ => none) (fun _ ih => fastJob C ih) n

end
end Go.Ev
namespace Go.Ev
noncomputable section

theorem opdF_ok (x : Operand) (e : Env) : (opdF x).app e = opd e x := by
  cases x with
  | tmp t =>
    obtain ⟨n, tr⟩ := e
    show gotV (tr.getP (path t)) = ((Env.get ⟨n, tr⟩ t).known)
    unfold Env.get Tr.get gotV
    simp only
    cases tr.getP (path t) <;> rfl
  | const v => rfl
  | global g => rfl
  | func f => rfl
theorem opdUF_ok (x : Operand) (e : Env) : (opdUF x).app e = opdU e x := by
  cases x with
  | tmp t =>
    obtain ⟨n, tr⟩ := e
    show Option.rec (motive := fun _ => Option AV) (some (.tup [])) (fun v => some v) (tr.getP (path t)) = some (Env.get ⟨n, tr⟩ t)
    unfold Env.get Tr.get
    simp only
    cases tr.getP (path t) <;> rfl
  | const v => rfl
  | global g => rfl
  | func f => rfl
theorem opdsF_ok : ∀ (l : List Operand) (e : Env), (opdsF l).app e = opds e l
  | [], _ => rfl
  | x :: l, e => by
    show consO ((opdF x).app e) ((opdsF l).app e) = opds e (x :: l)
    rw [opdF_ok, opdsF_ok l e, opds]
    cases opd e x <;> cases opds e l <;> rfl
theorem opdsUF_ok : ∀ (l : List Operand) (e : Env), (opdsUF l).app e = opdsU e l
  | [], _ => rfl
  | x :: l, e => by
    show consO ((opdUF x).app e) ((opdsUF l).app e) = opdsU e (x :: l)
    rw [opdUF_ok, opdsUF_ok l e, opdsU]
    cases opdU e x <;> cases opdsU e l <;> rfl
theorem opF_ok (C : Ctx) (op : Op) (e : Env) (s g : Heap) : (opF C op).app e s g = opEval C e s g op := by
  cases op
  case call c =>
    obtain ⟨callee, args, ts⟩ := c
    cases callee with
    | value f => show calledR ((opdsUF args.toList).app e) ((opdF f).app e) = _; rw [opdsUF_ok, opdF_ok]; rfl
    | builtin b => show builtinR C s g ts.toList ((opdsF args.toList).app e) b = _; rw [opdsF_ok]; rfl
    | invoke r m => rfl
  all_goals
    first
      | rfl
      | (simp only [opF, KO.app, opdF_ok, opdUF_ok, opdsF_ok, opEval]; done)
theorem putF_ok (d : Option Tmp) (e : Env) (v : AV) : putF d e v = e.put d v := by
  cases d with
  | none => rfl
  | some t =>
    obtain ⟨n, tr⟩ := e
    show Bool.rec (motive := fun _ => Env) ⟨n, tr⟩ ⟨n, Tr.setP (some v) (path t) tr⟩ (Nat.ble (Nat.succ t) n) = Env.set ⟨n, tr⟩ t v
    unfold Env.set Tr.put Nat.blt
    simp only
    cases Nat.ble (Nat.succ t) n <;> rfl

section
variable {C : Ctx} {S : String → Code → Prop} {rec : Job → Option Out}

theorem callK_eq {k : AV → Heap → Option Out} {o : Option Out} : callK k o = match called o with | some (v, h) => k v h | none => none := by
  unfold callK
  cases o with
  | none => rfl
  | some o => cases o <;> rfl
theorem contR_eq {h : Heap} {k : AV → Heap → Option Out} {r : OpR} : contR rec h k r = match doR rec h r with | some (v, h') => k v h' | none => none := by
  cases r <;> first | rfl | exact callK_eq

/-- The step of the evaluator is sound. -/
theorem step_ok (h : CtxOk C S) (ih : RecOk C S rec) : RecOk C S (step C rec) := by
  intro j out hr
  cases j with
  | code ro c ds e hp => exact code_ok h.tab ih h.draws h.csums h.names (fun ro f ps assign body ds e hp out hs => range_ok' h.fns ih ro f ps assign body ds e hp out hs) hr
  | ops all l ds e hp => exact ops_ok h.tab ih hr
  | draw all l ds e s g sts rds => exact draw_ok h.tab ih hr
  | call f args hp => exact call_ok h.tab h.fns h.sums ih hr
  | round l args hp => exact round_ok ih hr

/-- Lists of operations that are shorter than a list. -/
def recL (C : Ctx) (rec : Job → Option Out) (n : Nat) : Job → Option Out
  | .ops all l ds e h => if l.length < n then (opsF C all l).app rec ds e h else none
  | j => rec j
theorem opsF_step (all : List Oper) (o : Oper) (l : List Oper) (ds : List Nat) (e : Env) (h : Heap) :
    (opsF C all (o :: l)).app rec ds e h = step C (recL C rec (l.length + 1)) (.ops all (o :: l) ds e h) := by
  have hl : ∀ e' h', recL C rec (l.length + 1) (.ops all l ds e' h') = (opsF C all l).app rec ds e' h' := fun e' h' => by simp [recL]
  have hd : ∀ r, doR (recL C rec (l.length + 1)) h r = doR rec h r := fun r => by cases r <;> rfl
  have hc : contR rec h (fun v h' => (opsF C all l).app rec ds (putF o.dst e v) h') ((opF C o.op).app e h h) =
      nextOps (recL C rec (l.length + 1)) all l ds e o.dst (doR (recL C rec (l.length + 1)) h (opEval C e h h o.op)) := by
    rw [contR_eq, hd, opF_ok]
    cases doR rec h (opEval C e h h o.op) with
    | none => rfl
    | some x => obtain ⟨v, h'⟩ := x; simp only [nextOps, hl, putF_ok]
  show (opsStep C all o (opsF C all l)).app rec ds e h = oneOp C (recL C rec (l.length + 1)) all l ds e h o (wanted all e o)
  unfold opsStep
  cases hg : o.guard with
  | none =>
    have hw : wanted all e o = some true := by unfold wanted; rw [hg]
    rw [hw]
    exact hc
  | some y =>
    simp only [KL.app]
    cases hw : wanted all e o with
    | none => rfl
    | some b =>
      cases b with
      | true => exact hc
      | false => simp only [oneOp, hl, putF_ok]; rfl
theorem opsF_ok (h : CtxOk C S) (ih : RecOk C S rec) (all : List Oper) : ∀ (n : Nat) (l : List Oper), l.length ≤ n → ∀ (ds : List Nat) (e : Env) (hp : Heap) (out : Out), (opsF C all l).app rec ds e hp = some out → JobOk C S (.ops all l ds e hp) out
  | _, [], _, ds, e, hp, out, hs => step_ok h ih (.ops all [] ds e hp) out hs
  | 0, _ :: _, hl, _, _, _, _, _ => by simp at hl
  | n + 1, o :: l, hl, ds, e, hp, out, hs => by
    rw [opsF_step] at hs
    refine step_ok h (rec := recL C rec (l.length + 1)) (fun j out' hj => ?_) _ out hs
    cases j with
    | ops all' l' ds' e' h' =>
      simp only [recL] at hj
      split at hj
      · rename_i hlt
        exact opsF_ok h ih all' n l' (by simp at hl; omega) ds' e' h' out' hj
      · cases hj
    | code _ _ _ _ _ => exact ih _ _ hj
    | draw _ _ _ _ _ _ _ _ => exact ih _ _ hj
    | call _ _ _ => exact ih _ _ hj
    | round _ _ _ => exact ih _ _ hj

/-- Regions that draw, shorter than one. -/
def recD (C : Ctx) (rec : Job → Option Out) (n : Nat) : Job → Option Out
  | .draw all l ds e s g sts rds => if l.length < n then (drawF C all l).app rec ds e s g sts rds else none
  | j => rec j
theorem drawF_step (all : List Oper) (o : Oper) (lo hi : Nat) (l : List (Oper × Nat × Nat)) (ds : List Nat) (e : Env) (s g : Heap) (sts : List Heap) (rds : List (Op × Env × Nat × Nat × AV)) :
    (drawF C all ((o, lo, hi) :: l)).app rec ds e s g sts rds = step C (recD C rec (l.length + 1)) (.draw all ((o, lo, hi) :: l) ds e s g sts rds) := by
  have hl : ∀ e' s' g' sts' rds', recD C rec (l.length + 1) (.draw all l ds e' s' g' sts' rds') = (drawF C all l).app rec ds e' s' g' sts' rds' := fun _ _ _ _ _ => by simp [recD]
  have hd : ∀ r, doR (recD C rec (l.length + 1)) g r = doR rec g r := fun r => by cases r <;> rfl
  show (drawStep C all o lo hi (drawF C all l)).app rec ds e s g sts rds = stepDraw C (recD C rec (l.length + 1)) all ds e s g sts rds ((o, lo, hi) :: l)
  unfold drawStep
  simp only [KD.app, stepDraw]
  cases hw : wanted all e o with
  | none => rfl
  | some b =>
    cases b with
    | false => simp only [hl, putF_ok]; rfl
    | true =>
      simp only [opF_ok]
      cases hop : opEval C e s g o.op with
      | val v => simp only [nextDraw, hl, putF_ok]; rfl
      | rd v => simp only [nextDraw, hl, putF_ok]; rfl
      | new ob mk => simp only [nextDraw, hl, putF_ok]; rfl
      | wr v g' => simp only [nextDraw, doR, hl, putF_ok]; rfl
      | fn f args =>
        simp only [nextDraw, hd, hl, putF_ok, callK_eq]
        show _ = (match called (rec (.call f args g)) with | some (v, g') => _ | none => none)
        cases called (rec (.call f args g)) with
        | none => rfl
        | some x => rfl
      | yield f args =>
        simp only [nextDraw, hd, hl, putF_ok, callK_eq]
        show _ = (match called (rec (.round f args g)) with | some (v, g') => _ | none => none)
        cases called (rec (.round f args g)) with
        | none => rfl
        | some x => rfl
      | bad => simp only [nextDraw, doR]
theorem drawF_ok (h : CtxOk C S) (ih : RecOk C S rec) : ∀ (n : Nat) (all : List Oper) (l : List (Oper × Nat × Nat)), l.length ≤ n → ∀ (ds : List Nat) (e : Env) (s g : Heap) (sts : List Heap) (rds : List (Op × Env × Nat × Nat × AV)) (out : Out),
    (drawF C all l).app rec ds e s g sts rds = some out → JobOk C S (.draw all l ds e s g sts rds) out
  | _, all, [], _, ds, e, s, g, sts, rds, out, hs => step_ok h ih (.draw all [] ds e s g sts rds) out hs
  | 0, _, _ :: _, hl, _, _, _, _, _, _, _, _ => by simp at hl
  | n + 1, all, (o, lo, hi) :: l, hl, ds, e, s, g, sts, rds, out, hs => by
    rw [drawF_step] at hs
    refine step_ok h (rec := recD C rec (l.length + 1)) (fun j out' hj => ?_) _ out hs
    cases j with
    | draw all' l' ds' e' s' g' sts' rds' =>
      simp only [recD] at hj
      split at hj
      · rename_i hlt
        exact drawF_ok h ih n all' l' (by simp at hl; omega) ds' e' s' g' sts' rds' out' hj
      · cases hj
    | code _ _ _ _ _ => exact ih _ _ hj
    | ops _ _ _ _ _ => exact ih _ _ hj
    | call _ _ _ => exact ih _ _ hj
    | round _ _ _ => exact ih _ _ hj

/-- Code that is smaller than some. -/
def recC (C : Ctx) (rec : Job → Option Out) (n : Nat) : Job → Option Out
  | .code ro c ds e h => if SizeOf.sizeOf c < n then (codeF C c).app rec ro ds e h else rec (.code ro c ds e h)
  | .ops all l ds e h => (opsF C all l).app rec ds e h
  | .draw all l ds e s g sts rds => (drawF C all l).app rec ds e s g sts rds
  | j => rec j
theorem seqK_eq {k : List Nat → Env → Heap → Option Out} {o : Option Out} :
    seqK k o = match o with | some (.code .normal ds' e' h') => k ds' e' h' | some (.code x ds' e' h') => some (.code x ds' e' h') | _ => none := by
  unfold seqK
  cases o with
  | none => rfl
  | some o =>
    cases o with
    | val v h => rfl
    | code x ds e h => cases x <;> rfl
theorem blockK_eq {id : Nat} {o : Option Out} :
    blockK id o = match o with | some (.code (.exit id') ds' e' h') => some (.code (bif id'.beq id then .normal else .exit id') ds' e' h') | some (.code x ds' e' h') => some (.code x ds' e' h') | _ => none := by
  unfold blockK
  cases o with
  | none => rfl
  | some o =>
    cases o with
    | val v h => rfl
    | code x ds e h => cases x <;> rfl
theorem codeF_step (c : Code) (ro : Option Nat) (ds : List Nat) (e : Env) (h : Heap) (h1 : ∀ f ps a b, c ≠ .rangeFunc f ps a b) (h2 : ∀ s, c ≠ .refuse s) :
    (codeF C c).app rec ro ds e h = stepCode C (recC C rec (SizeOf.sizeOf c)) ro ds e h c := by
  cases c with
  | skip => rfl
  | label l => rfl
  | exit id => rfl
  | ret => rfl
  | goto l => rfl
  | region id ops draw =>
    cases draw with
    | false => rfl
    | true =>
      show (drawRegion C ops.toList (plan C ops.toList)).app rec ro ds e h = _
      simp only [stepCode, cond_true]
      cases plan C ops.toList <;> rfl
  | seq a b =>
    show seqK (fun ds' e' h' => (codeF C b).app rec ro ds' e' h') ((codeF C a).app rec ro ds e h) = _
    have ha : ∀ ds e h, recC C rec (SizeOf.sizeOf (Code.seq a b)) (.code ro a ds e h) = (codeF C a).app rec ro ds e h := fun _ _ _ => by
      simp only [recC]; rw [if_pos (by simp; omega)]
    have hb : ∀ ds e h, recC C rec (SizeOf.sizeOf (Code.seq a b)) (.code ro b ds e h) = (codeF C b).app rec ro ds e h := fun _ _ _ => by
      simp only [recC]; rw [if_pos (by simp; omega)]
    simp only [stepCode, ha, hb, seqK_eq]
    rfl
  | cond x a b =>
    show condK ((codeF C a).app rec ro ds e h) ((codeF C b).app rec ro ds e h) ((opdF x).app e) = _
    have ha : ∀ ds e h, recC C rec (SizeOf.sizeOf (Code.cond x a b)) (.code ro a ds e h) = (codeF C a).app rec ro ds e h := fun _ _ _ => by
      simp only [recC]; rw [if_pos (by simp; omega)]
    have hb : ∀ ds e h, recC C rec (SizeOf.sizeOf (Code.cond x a b)) (.code ro b ds e h) = (codeF C b).app rec ro ds e h := fun _ _ _ => by
      simp only [recC]; rw [if_pos (by simp; omega)]
    simp only [stepCode, ha, hb, opdF_ok]
    rfl
  | block id a =>
    show blockK id ((codeF C a).app rec ro ds e h) = _
    have ha : ∀ ds e h, recC C rec (SizeOf.sizeOf (Code.block id a)) (.code ro a ds e h) = (codeF C a).app rec ro ds e h := fun _ _ _ => by
      simp only [recC]; rw [if_pos (by simp; omega)]
    simp only [stepCode, ha, blockK_eq]
    rfl
  | loop a =>
    show seqK (fun ds' e' h' => rec (.code ro (.loop a) ds' e' h')) ((codeF C a).app rec ro ds e h) = _
    have ha : ∀ ds e h, recC C rec (SizeOf.sizeOf (Code.loop a)) (.code ro a ds e h) = (codeF C a).app rec ro ds e h := fun _ _ _ => by
      simp only [recC]; rw [if_pos (by simp)]
    have hb : ∀ ds e h, recC C rec (SizeOf.sizeOf (Code.loop a)) (.code ro (.loop a) ds e h) = rec (.code ro (.loop a) ds e h) := fun _ _ _ => by
      simp only [recC]; rw [if_neg (by omega)]
    simp only [stepCode, ha, hb, seqK_eq]
    rfl
  | scope a =>
    show (codeF C a).app rec ro ds e h = _
    simp only [stepCode, recC]; rw [if_pos (by simp)]
  | rangeFunc f ps a b => exact absurd rfl (h1 f ps a b)
  | refuse s => exact absurd rfl (h2 s)
theorem codeF_ok (h : CtxOk C S) (ih : RecOk C S rec) : ∀ (n : Nat) (c : Code), SizeOf.sizeOf c ≤ n → ∀ (ro : Option Nat) (ds : List Nat) (e : Env) (hp : Heap) (out : Out), (codeF C c).app rec ro ds e hp = some out → JobOk C S (.code ro c ds e hp) out := by
  intro n
  induction n with
  | zero => intro c hc; cases c <;> simp at hc
  | succ n IH =>
    intro c hc ro ds e hp out hs
    by_cases h1 : ∃ f ps a b, c = .rangeFunc f ps a b
    · obtain ⟨f, ps, a, b, rfl⟩ := h1
      exact step_ok h ih (.code ro (.rangeFunc f ps a b) ds e hp) out hs
    by_cases h2 : ∃ s, c = .refuse s
    · obtain ⟨s, rfl⟩ := h2
      exact step_ok h ih (.code ro (.refuse s) ds e hp) out hs
    rw [codeF_step c ro ds e hp (fun f ps a b hh => h1 ⟨f, ps, a, b, hh⟩) (fun s hh => h2 ⟨s, hh⟩)] at hs
    refine step_ok h (rec := recC C rec (SizeOf.sizeOf c)) (fun j out' hj => ?_) (.code ro c ds e hp) out hs
    cases j with
    | code ro' c' ds' e' h' =>
      simp only [recC] at hj
      split at hj
      · rename_i hlt
        exact IH c' (by omega) ro' ds' e' h' out' hj
      · exact ih _ _ hj
    | ops all l ds' e' h' => exact opsF_ok h ih all l.length l (Nat.le_refl _) ds' e' h' out' hj
    | draw all l ds' e' s g sts rds => exact drawF_ok h ih l.length all l (Nat.le_refl _) ds' e' s g sts rds out' hj
    | call _ _ _ => exact ih _ _ hj
    | round _ _ _ => exact ih _ _ hj

theorem fastJob_ok (h : CtxOk C S) (ih : RecOk C S rec) : RecOk C S (fastJob C rec) := by
  intro j out hr
  cases j with
  | code ro c ds e hp => exact codeF_ok h ih (SizeOf.sizeOf c) c (Nat.le_refl _) ro ds e hp out hr
  | ops all l ds e hp => exact opsF_ok h ih all l.length l (Nat.le_refl _) ds e hp out hr
  | draw all l ds e s g sts rds => exact drawF_ok h ih l.length all l (Nat.le_refl _) ds e s g sts rds out hr
  | call f args hp => exact step_ok h ih (.call f args hp) out hr
  | round l args hp => exact step_ok h ih (.round l args hp) out hr
/-- THE QUICK EVALUATOR IS SOUND. -/
theorem fast_ok (h : CtxOk C S) : ∀ n, RecOk C S (fast C n)
  | 0 => fun _ _ hr => by cases hr
  | n + 1 => fastJob_ok h (fast_ok h n)
end
end
end Go.Ev
