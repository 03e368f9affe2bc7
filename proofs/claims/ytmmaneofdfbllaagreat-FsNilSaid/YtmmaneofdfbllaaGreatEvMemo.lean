/-
  EvMemo: calls whose end is known, and equations of the quick evaluator. No condition.
-/
import Derived.Test.YtmmaneofdfbllaaGreatEvFast
import Derived.Test.YtmmaneofdfbllaaGreatEvLoop
set_option linter.unusedVariables false
set_option linter.unusedSimpArgs false
set_option linter.unusedSectionVars false
namespace Go.Ev
noncomputable section

/-! ### Heaps written out -/

def sameO : AObj → AObj → Bool
  | .cells a, .cells b => sameAVs a b
  | .ro a, .ro b => sameAVs a b
  | .map es c, .map fs d => sameEs es fs && c.beq d
  | _, _ => false
theorem sameO_eq {a b : AObj} (h : sameO a b = true) : a = b := by
  cases a <;> cases b <;> simp only [sameO, Bool.false_eq_true] at h
  · rw [sameAVs_eq _ _ h]
  · rw [sameAVs_eq _ _ h]
  · simp only [Bool.and_eq_true, beq_nat, decide_eq_true_eq] at h; rw [sameEs_eq h.1, h.2]

def putL : List (Nat × AObj) → Tr AObj
  | [] => .leaf
  | (b, o) :: l => (putL l).put b o
def ofL (n : Nat) (l : List (Nat × AObj)) : Heap := { next := n, objs := putL l }
theorem putL_get : ∀ {l : List (Nat × AObj)} {b : Nat} {o : AObj}, (putL l).get b = some o → (b, o) ∈ l
  | [], b, o, h => by simp only [putL, Tr.get_leaf] at h; cases h
  | (c, x) :: l, b, o, h => by
    simp only [putL, Tr.get_put] at h
    split at h
    · rename_i hb; subst hb; simp only [Option.some.injEq] at h; subst h; simp
    · exact List.mem_cons_of_mem _ (putL_get h)
def subL (h : Heap) : List (Nat × AObj) → Bool
  | [] => true
  | (b, o) :: l =>
    match h.get b with
    | some o' => sameO o o' && subL h l
    | none => false
theorem subL_ok {h : Heap} : ∀ {l : List (Nat × AObj)}, subL h l = true → ∀ b o, (b, o) ∈ l → h.get b = some o
  | [], _, b, o, hm => by simp at hm
  | (c, x) :: l, hs, b, o, hm => by
    simp only [subL] at hs
    split at hs
    · rename_i o' ho
      simp only [Bool.and_eq_true] at hs
      rcases List.mem_cons.1 hm with hm | hm
      · simp only [Prod.mk.injEq] at hm; obtain ⟨rfl, rfl⟩ := hm; rw [ho, sameO_eq hs.1]
      · exact subL_ok hs.2 b o hm
    · cases hs
/-- A row of bytes. -/
def bs (l : List Nat) : AObj := .cells (l.map fun n => .int .u8 (.ofNat n))
def rpN (a : Nat) : Nat → List Nat
  | 0 => []
  | n + 1 => a :: rpN a n
def i64 (n : Nat) : AV := .int .i64 (.ofNat n)
def u8 (n : Nat) : AV := .int .u8 (.ofNat n)
def u16 (n : Nat) : AV := .int .u16 (.ofNat n)
def u32 (n : Nat) : AV := .int .u32 (.ofNat n)
def u64 (n : Nat) : AV := .int .u64 (.ofNat n)

section
variable {S : String → Code → Prop} {F : Fr} {i : Emb} {w : World}
theorem Rel.restrict {G G' : Nat → Option AObj} {n : Nat} (R : Rel S F i G n w) (h : ∀ b o, G' b = some o → G b = some o) : Rel S F i G' n w where
  objs := fun b o hb ho => R.objs b o (h b o hb) ho
  inj := fun b b' o o' c c' hb hb' => R.inj b b' o o' c c' (h b o hb) (h b' o' hb')
  fresh := fun b hb => ⟨(R.fresh b hb).1, by
    cases hg : G' b with
    | none => rfl
    | some o => have := h b o hg; rw [(R.fresh b hb).2] at this; cases this⟩
  keep := R.keep
  apart := fun b o c hb => R.apart b o c (h b o hb)
  roFr := fun b cs c hb => R.roFr b cs c (h b _ hb)
  os := R.os
  output := R.output
  tape := R.tape
end

/-! ### Calls whose end is known -/

section
variable {C : Ctx} {S : String → Code → Prop} {rec : Job → Option Out}

theorem CallOk.mono {P : Program} {f : FuncId} {vs : Array Value} {w : World} {R R' : Value → World → Prop} (h : CallOk P f vs w R) (hR : ∀ x w', R x w' → R' x w') : CallOk P f vs w R' := by
  rcases h with ⟨fn, h1, h2, h3, h4⟩ | ⟨x, w', h1, h2⟩
  · refine .inl ⟨fn, h1, h2, h3, CallsIn.mono (R := onValue R) h4 fun e w'' he => ?_⟩
    cases e with
    | returned x => exact hR _ _ he
    | panicked c => exact he.elim
    | outgrown => exact he.elim
  · exact .inr ⟨x, w', h1, hR _ _ h2⟩

/-- An end, as far as it is looked at. -/
def endsIn (v : AV) (n : Nat) (l : List (Nat × AObj)) : Option Out → Bool
  | some (.val v' h') => sameAV v v' && h'.next.beq n && subL h' l
  | _ => false
theorem ends_ok (hr : RecOk C S rec) {f : FuncId} {args : List AV} {h₀ : Heap} {v : AV} {n : Nat} {l : List (Nat × AObj)} (h : endsIn v n l (rec (.call f args h₀)) = true) : ValOk C S f args h₀ v (ofL n l) := by
  cases hx : rec (.call f args h₀) with
  | none => rw [hx] at h; simp [endsIn] at h
  | some out =>
    rw [hx] at h
    have hok := hr _ _ hx
    cases out with
    | code _ _ _ _ => simp [endsIn] at h
    | val v' h' =>
      simp only [endsIn, Bool.and_eq_true, beq_nat, decide_eq_true_eq] at h
      obtain ⟨⟨h1, h2⟩, h3⟩ := h
      intro F i vs w R gv
      refine CallOk.mono (hok F i vs w R gv) fun x w' ⟨j, hj, gx, R'⟩ => ⟨j, hj, ?_, ?_⟩
      · rw [sameAV_eq _ _ h1]; exact gx
      · rw [h2] at R'
        exact R'.restrict fun b o hb => subL_ok h3 b o (putL_get hb)

structure Memo where
  f : FuncId
  args : List AV
  n : Nat
  l : List (Nat × AObj)
  v : AV
  n' : Nat
  l' : List (Nat × AObj)
def Memo.Ok (C : Ctx) (S : String → Code → Prop) (m : Memo) : Prop := ValOk C S m.f m.args (ofL m.n m.l) m.v (ofL m.n' m.l')
def hit (m : Memo) (f : FuncId) (args : List AV) (h : Heap) : Bool := Nat.beq m.f f && sameAVs m.args args && m.n.beq h.next && subL h m.l
def find (f : FuncId) (args : List AV) (h : Heap) : List Memo → Option (AV × Heap)
  | [] => none
  | m :: ms => bif hit m f args h then some (m.v, ofL m.n' m.l') else find f args h ms
theorem hit_ok {m : Memo} {f : FuncId} {args : List AV} {h : Heap} (hm : m.Ok C S) (hh : hit m f args h = true) : ValOk C S f args h m.v (ofL m.n' m.l') := by
  unfold hit at hh
  simp only [Bool.and_eq_true, beq_nat, decide_eq_true_eq] at hh
  obtain ⟨⟨⟨h1, h2⟩, h3⟩, h4⟩ := hh
  have h2 := sameAVs_eq _ _ h2
  subst h1; subst h2
  intro F i vs w R gv
  refine hm F i vs w ?_ gv
  show Rel S F i (ofL m.n m.l).get m.n w
  rw [h3]
  exact R.restrict fun b o hb => subL_ok h4 b o (putL_get hb)
theorem find_ok {f : FuncId} {args : List AV} {h : Heap} {r : AV × Heap} : ∀ {ms : List Memo}, (∀ m ∈ ms, m.Ok C S) → find f args h ms = some r → ValOk C S f args h r.1 r.2
  | [], _, hf => by simp [find] at hf
  | m :: ms, hm, hf => by
    simp only [find] at hf
    cases hh : hit m f args h with
    | true => rw [hh] at hf; simp only [cond_true, Option.some.injEq] at hf; subst hf; exact hit_ok (hm m (by simp)) hh
    | false => rw [hh] at hf; exact find_ok (fun x hx => hm x (by simp [hx])) hf
def hasF (f : FuncId) : List Memo → Bool
  | [] => false
  | m :: ms => bif Nat.beq m.f f then true else hasF f ms
abbrev Sums := FuncId → Option ((Job → Option Out) → List AV → Heap → Option (AV × Heap))
/-- Summaries, and calls whose end is known. -/
def memo (ms : List Memo) (base : Sums) : Sums := fun f =>
  bif hasF f ms then
    some fun rec args h =>
      match find f args h ms with
      | some r => some r
      | none =>
        match base f with
        | some s => s rec args h
        | none => none
  else base f
/-- Summaries that hold, whatever else is taken as one step. -/
def BaseOk (C : Ctx) (S : String → Code → Prop) (base : Sums) : Prop :=
  ∀ f s, base f = some s → ∀ rec, RecOk C S rec → ∀ (args : List AV) (h : Heap) (v : AV) (h' : Heap), s rec args h = some (v, h') → ValOk C S f args h v h'
theorem memo_ok {ms : List Memo} {base : Sums} (hm : ∀ m ∈ ms, m.Ok C S) (hb : BaseOk C S base) (hC : C.sums = memo ms base) : SumsOk C S := by
  intro f s hs rec hrec args h v h' hv
  have hb' : ∀ s', base f = some s' → s' rec args h = some (v, h') → ValOk C S f args h v h' := fun s' h1 h2 => hb f s' h1 rec hrec args h v h' h2
  rw [hC] at hs
  unfold memo at hs
  cases hh : hasF f ms with
  | false => rw [hh] at hs; exact hb' s hs hv
  | true =>
    rw [hh] at hs
    simp only [cond_true, Option.some.injEq] at hs
    subst hs
    dsimp only at hv
    split at hv
    · rename_i r hr
      obtain rfl : r = (v, h') := Option.some.inj hv
      exact find_ok hm hr
    · split at hv
      · rename_i s' hs'
        exact hb' s' hs' hv
      · cases hv

/-! ### Calls that look at nothing -/

/-- The whole world as a frame. -/
def Fr.all (F : Fr) (w : World) : Fr := { F with blocks := fun c => w.heap[c]?, ro := fun c => (w.heap[c]?).isSome = true, roIn := fun _ h => h }
theorem Rel.all {F : Fr} {i : Emb} {G : Nat → Option AObj} {n : Nat} {w : World} (R : Rel S F i G n w) : Rel S (F.all w) (fun _ => none) (fun _ => none) 0 w where
  objs := fun _ _ h => by cases h
  inj := fun _ _ _ _ _ _ h => by cases h
  fresh := fun _ _ => ⟨rfl, rfl⟩
  keep := fun _ _ h => h
  apart := fun _ _ _ h => by cases h
  roFr := fun _ _ _ h => by cases h
  os := R.os
  output := R.output
  tape := R.tape
theorem Rel.unall {F : Fr} {i j : Emb} {G G' : Nat → Option AObj} {n n' : Nat} {w w' : World} (R : Rel S F i G n w) (R' : Rel S (F.all w) j G' n' w') : Rel S F i G n w' where
  objs := fun b o hb ho => by
    obtain ⟨c, hc, g⟩ := R.objs b o hb ho
    refine ⟨c, hc, ?_⟩
    obtain ⟨x, hx⟩ := ORel.some g ho
    rw [R'.keep c.1 x hx, ← hx]
    exact g
  inj := R.inj
  fresh := R.fresh
  keep := fun c o h => R'.keep c o (R.keep c o h)
  apart := R.apart
  roFr := R.roFr
  os := R'.os
  output := R'.output
  tape := R'.tape
/-- A call without arguments whose end is known is so in every world. -/
theorem closed_ok {f : FuncId} {b : Bool} {h' : Heap} (hv : ValOk C S f [] (ofL 0 []) (.bool b) h') (h : Heap) : ValOk C S f [] h (.bool b) h := by
  intro F i vs w R gv
  cases vs with
  | cons _ _ => simp [VRels] at gv
  | nil =>
    have R₀ : Rel S (F.all w) (fun _ => none) (ofL 0 []).get (ofL 0 []).next w := R.all.restrict fun b o hb => by
      have := putL_get hb; simp at this
    refine CallOk.mono (hv (F.all w) _ [] w R₀ (by simp [VRels])) fun x w' ⟨j, hj, gx, R'⟩ => ⟨i, Emb.Le.refl _, ?_, R.unall R'⟩
    simp only [VRel] at gx ⊢
    exact gx
/-- Calls without arguments that answer true. -/
def trueSum (_ : Job → Option Out) (args : List AV) (h : Heap) : Option (AV × Heap) :=
  match args with
  | [] => some (.bool true, h)
  | _ => none
end
end
end Go.Ev
namespace Go.Ev
noncomputable section
variable {C : Ctx} {rec : Job → Option Out} {ro : Option Nat} {ds : List Nat} {e : Env} {h : Heap}

theorem cF_skip : (codeF C .skip).app rec ro ds e h = some (.code .normal ds e h) := rfl
theorem cF_ret : (codeF C .ret).app rec ro ds e h = some (.code .ret ds e h) := rfl
theorem cF_exit (id : Nat) : (codeF C (.exit id)).app rec ro ds e h = some (.code (.exit id) ds e h) := rfl
theorem cF_region (id : Nat) (ops : Array Oper) : (codeF C (.region id ops false)).app rec ro ds e h = (opsF C ops.toList ops.toList).app rec ds e h := rfl
theorem cF_seq (a b : Code) : (codeF C (.seq a b)).app rec ro ds e h = seqK (fun ds' e' h' => (codeF C b).app rec ro ds' e' h') ((codeF C a).app rec ro ds e h) := rfl
theorem cF_cond (x : Operand) (a b : Code) : (codeF C (.cond x a b)).app rec ro ds e h = condK ((codeF C a).app rec ro ds e h) ((codeF C b).app rec ro ds e h) (opd e x) := by
  show condK ((codeF C a).app rec ro ds e h) ((codeF C b).app rec ro ds e h) ((opdF x).app e) = _; rw [opdF_ok]
theorem cF_block (id : Nat) (a : Code) : (codeF C (.block id a)).app rec ro ds e h = blockK id ((codeF C a).app rec ro ds e h) := rfl
theorem cF_loop (a : Code) : (codeF C (.loop a)).app rec ro ds e h = seqK (fun ds' e' h' => rec (.code ro (.loop a) ds' e' h')) ((codeF C a).app rec ro ds e h) := rfl
theorem cF_scope (a : Code) : (codeF C (.scope a)).app rec ro ds e h = (codeF C a).app rec ro ds e h := rfl
theorem seqK_normal (k : List Nat → Env → Heap → Option Out) : seqK k (some (.code .normal ds e h)) = k ds e h := rfl
theorem seqK_ret (k : List Nat → Env → Heap → Option Out) : seqK k (some (.code .ret ds e h)) = some (.code .ret ds e h) := rfl
theorem seqK_exit (k : List Nat → Env → Heap → Option Out) (id : Nat) : seqK k (some (.code (.exit id) ds e h)) = some (.code (.exit id) ds e h) := rfl
theorem blockK_normal (id : Nat) : blockK id (some (.code .normal ds e h)) = some (.code .normal ds e h) := rfl
theorem blockK_ret (id : Nat) : blockK id (some (.code .ret ds e h)) = some (.code .ret ds e h) := rfl
theorem blockK_exit (id id' : Nat) : blockK id (some (.code (.exit id') ds e h)) = some (.code (bif id'.beq id then .normal else .exit id') ds e h) := rfl
theorem condK_true (a b : Option Out) : condK a b (some (.bool true)) = a := rfl
theorem condK_false (a b : Option Out) : condK a b (some (.bool false)) = b := rfl
theorem oF_nil (all : List Oper) : (opsF C all []).app rec ds e h = some (.code .normal ds e h) := rfl
theorem oF_cons (all l : List Oper) (dst : Option Tmp) (op : Op) (ty : TypeId) (pos : String) (after : Array Edge) :
    (opsF C all (⟨dst, op, ty, pos, after, none⟩ :: l)).app rec ds e h = contR rec h (fun v h' => (opsF C all l).app rec ds (e.put dst v) h') (opEval C e h h op) := by
  show contR rec h (fun v h' => (opsF C all l).app rec ds (putF dst e v) h') ((opF C op).app e h h) = _
  rw [opF_ok]; simp only [putF_ok]
theorem contR_val (k : AV → Heap → Option Out) (v : AV) : contR rec h k (.val v) = k v h := rfl
theorem contR_rd (k : AV → Heap → Option Out) (v : AV) : contR rec h k (.rd v) = k v h := rfl
theorem contR_new (k : AV → Heap → Option Out) (o : AObj) (mk : Nat → AV) : contR rec h k (.new o mk) = k (mk h.next) (h.add o) := rfl
theorem contR_wr (k : AV → Heap → Option Out) (v : AV) (h' : Heap) : contR rec h k (.wr v h') = k v h' := rfl
theorem contR_fn (k : AV → Heap → Option Out) (f : FuncId) (l : List AV) : contR rec h k (.fn f l) = callK k (rec (.call f l h)) := rfl
theorem callK_val (k : AV → Heap → Option Out) (v : AV) : callK k (some (.val v h)) = k v h := rfl
theorem put_some (t : Nat) (v : AV) : e.put (some t) v = e.set t v := rfl
theorem put_none (v : AV) : e.put none v = e := rfl
theorem opd_tmp (t : Nat) : opd e (.tmp t) = (e.get t).known := rfl
theorem opdU_tmp (t : Nat) : opdU e (.tmp t) = some (e.get t) := rfl
theorem known_bool (b : Bool) : (AV.bool b).known = some (.bool b) := rfl
theorem known_int (k : IntKind) (n : Int) : (AV.int k n).known = some (.int k n) := rfl
theorem known_ptr (b o : Nat) : (AV.ptr b o).known = some (.ptr b o) := rfl
theorem known_sl (b o n : Nat) (c : Cap) : (AV.sl b o n c).known = some (.sl b o n c) := rfl
theorem asVal_eq (v : AV) : asVal (some v) = .val v := rfl
theorem asRd_eq (v : AV) : asRd (some v) = .rd v := rfl

theorem opd_int (k : IntKind) (n : Int) : opd e (.const (.int k n)) = some (.int k n) := rfl
theorem opdU_int (k : IntKind) (n : Int) : opdU e (.const (.int k n)) = some (.int k n) := rfl
theorem opd_bool (b : Bool) : opd e (.const (.bool b)) = some (.bool b) := rfl
theorem opdU_bool (b : Bool) : opdU e (.const (.bool b)) = some (.bool b) := rfl
theorem opd_func (f : FuncId) : opd e (.func f) = some (.fn f [] []) := rfl
theorem bin_lss (t : TypeId) (k : IntKind) (a b : Int) : binOf C .lss t (some (.int k a)) (some (.int k b)) = some (.bool (ilt a b)) := by cases k <;> rfl
theorem bin_eql (t : TypeId) (k : IntKind) (a b : Int) : binOf C .eql t (some (.int k a)) (some (.int k b)) = some (.bool (ieq a b)) := by cases k <;> rfl
theorem bin_neq (t : TypeId) (k : IntKind) (a b : Int) : binOf C .neq t (some (.int k a)) (some (.int k b)) = some (.bool (!(ieq a b))) := by cases k <;> rfl
theorem bin_add (t : TypeId) (k : IntKind) (a b : Int) : binOf C .add t (some (.int k a)) (some (.int k b)) = some (.int k (wr k (iadd a b))) := by cases k <;> rfl
theorem bin_and (t : TypeId) (k : IntKind) (a b : Int) : binOf C .and t (some (.int k a)) (some (.int k b)) = some (.int k (sgn k (Nat.land (low k a) (low k b)))) := by cases k <;> rfl
theorem bin_xor (t : TypeId) (k : IntKind) (a b : Int) : binOf C .xor t (some (.int k a)) (some (.int k b)) = some (.int k (sgn k (Nat.xor (low k a) (low k b)))) := by cases k <;> rfl
theorem bin_shr (t : TypeId) (k k' : IntKind) (a b : Nat) : binOf C .shr t (some (.int k (.ofNat a))) (some (.int k' (.ofNat b))) = some (.int k (.ofNat (Nat.shiftRight a (Nat.min b (kbits k))))) := rfl
theorem wr_i64 {n : Nat} (hn : n < 9223372036854775808) : wr .i64 (.ofNat n) = .ofNat n := by
  unfold wr sgn low
  simp only [kmod, khalf]
  rw [Nat.mod_eq_of_lt (by omega), cond_blt, if_pos hn]
theorem low_u32 {n : Nat} (hn : n < 4294967296) : low .u32 (.ofNat n) = n := by
  unfold low; simp only [kmod]; exact Nat.mod_eq_of_lt hn
theorem sgn_u32 {n : Nat} (hn : n < 4294967296) : sgn .u32 n = .ofNat n := by
  unfold sgn; simp only [khalf]; rw [cond_blt, if_pos hn]
theorem get_same {t : Nat} {v : AV} (ht : t < e.n) : (e.set t v).get t = v := by rw [Env.get_set, if_pos ⟨rfl, ht⟩]
theorem get_other {t u : Nat} {v : AV} (hu : u ≠ t) : (e.set t v).get u = e.get u := by rw [Env.get_set, if_neg (fun x => hu x.1)]
/-- The first loop's body. -/
def fstLoop : Code → Option Code
  | .loop c => some c
  | .seq a b => match fstLoop a with | some c => some c | none => fstLoop b
  | .block _ a => fstLoop a
  | .cond _ a b => match fstLoop a with | some c => some c | none => fstLoop b
  | .scope a => fstLoop a
  | _ => none
def loopBody (fn : Func) : Code :=
  match fn.body with
  | some c => match fstLoop c with | some b => b | none => .skip
  | none => .skip
end
end Go.Ev
