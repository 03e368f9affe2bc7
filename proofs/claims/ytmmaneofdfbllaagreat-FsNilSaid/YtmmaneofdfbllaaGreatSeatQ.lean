/-
  SeatQ: the law's calls go through. No condition.
-/
import Derived.Test.YtmmaneofdfbllaaGreatSeat
import Derived.Test.YtmmaneofdfbllaaGreatSeatK1
import Derived.Test.YtmmaneofdfbllaaGreatSeatK2
import Derived.Test.YtmmaneofdfbllaaGreatSeatK3
import Derived.Test.YtmmaneofdfbllaaGreatSeatK4
import Derived.Below
set_option linter.unusedVariables false
set_option linter.unusedSimpArgs false
set_option linter.unusedSectionVars false
namespace Go.Ev
open Go.Proofs
set_option linter.unusedSimpArgs false

theorem okFormat : mFormat.Ok C0 SS := checked (ms := []) (fun _ h => by cases h) evalFormat
theorem okMount : mMount.Ok C0 SS := checked (ms := []) (fun _ h => by cases h) evalMount
theorem okMount2 : mMount2.Ok C0 SS := checked (ms := []) (fun _ h => by cases h) evalMount2
theorem okTwo : ∀ x ∈ [mFormat, mMount], x.Ok C0 SS := by
  intro x hx
  simp only [List.mem_cons, List.not_mem_nil, or_false] at hx
  rcases hx with rfl | rfl
  · exact okFormat
  · exact okMount
theorem okKnown : mKnown.Ok C0 SS := checked okTwo evalKnown
theorem okThree : ∀ x ∈ [mFormat, mMount, mMount2], x.Ok C0 SS := by
  intro x hx
  simp only [List.mem_cons, List.not_mem_nil, or_false] at hx
  rcases hx with rfl | rfl | rfl
  · exact okFormat
  · exact okMount
  · exact okMount2
/-- The summaries of the law: what is known at the end is known. -/
noncomputable def base2 : Sums := fun f => bif Nat.beq f 4 then some trueSum else sumsOf f
theorem base2_ok (C : Ctx) (hP : C.P = C0.P) : BaseOk C SS base2 := by
  intro f s hs rec hrec args h v h' hv
  unfold base2 at hs
  rw [cond_beq] at hs
  split at hs
  · rename_i hf; subst hf
    simp only [Option.some.injEq] at hs; subst hs
    unfold trueSum at hv
    split at hv
    · simp only [Option.some.injEq, Prod.mk.injEq] at hv; obtain ⟨rfl, rfl⟩ := hv
      exact valOk_P hP (closed_ok (h' := ofL 2809 []) okKnown h)
    · cases hv
  · exact base_ok ctx0 C hP f s hs rec hrec args h v h' hv
noncomputable def CX : Ctx := { P := Tryz.prog, info := Tryz.prog.info?, fn := fnsOf Tryz.prog nm nr, sums := memo [mFormat, mMount, mMount2] base2, csum := csumOf T, cname := cnameOf nm nr T }
theorem ctxX : CtxOk CX SS :=
  ctx_of CX (by kernel_rfl) (by kernel_rfl) (by kernel_rfl) (by kernel_rfl) (by kernel_rfl) (memo_ok (ms := [mFormat, mMount, mMount2]) (base := base2) (fun m hm => valOk_P (by kernel_rfl) (okThree m hm)) (base2_ok CX (by kernel_rfl)) (by kernel_rfl))

/-! The law's code in its parts. -/
def fstC : Code → Code
  | .seq a _ => a
  | c => c
def sndC : Code → Code
  | .seq _ b => b
  | c => c
noncomputable def body3 : Code := Tryz.f3.body.getD .skip
noncomputable def R0 : Code := fstC body3
noncomputable def R1 : Code := fstC (fstC (sndC body3))
noncomputable def RC : Code := sndC (fstC (sndC body3))
noncomputable def RR : Code := sndC (sndC body3)
def thenC : Code → Code
  | .cond _ a _ => a
  | c => c
noncomputable def RA : Code := thenC RC
theorem body3_eq : body3 = .seq R0 (.seq (.seq R1 (.cond (.tmp 25) RA .skip)) RR) := by kernel_rfl
theorem undX9 : CX.und 9 = some .string := by kernel_rfl
theorem undX22 : CX.und 22 = some (.slice 5) := by kernel_rfl
theorem oF_true (C : Ctx) (rec : Job → Option Out) (ds : List Nat) (e : Env) (h : Heap) (all l : List Oper) (dst : Option Tmp) (op : Op) (ty : TypeId) (pos : String) (after : Array Edge) (g : Nat × Bool) (hw : wanted all e ⟨dst, op, ty, pos, after, some g⟩ = some true) :
    (opsF C all (⟨dst, op, ty, pos, after, some g⟩ :: l)).app rec ds e h = contR rec h (fun v h' => (opsF C all l).app rec ds (e.put dst v) h') (opEval C e h h op) := by
  show (match wanted all e ⟨dst, op, ty, pos, after, some g⟩ with | some true => contR rec h (fun v h' => (opsF C all l).app rec ds (putF dst e v) h') ((opF C op).app e h h) | some false => (opsF C all l).app rec ds (putF dst e (.tup [])) h | none => none) = _
  rw [hw, opF_ok]; simp only [putF_ok]
theorem oF_false (C : Ctx) (rec : Job → Option Out) (ds : List Nat) (e : Env) (h : Heap) (all l : List Oper) (dst : Option Tmp) (op : Op) (ty : TypeId) (pos : String) (after : Array Edge) (g : Nat × Bool) (hw : wanted all e ⟨dst, op, ty, pos, after, some g⟩ = some false) :
    (opsF C all (⟨dst, op, ty, pos, after, some g⟩ :: l)).app rec ds e h = (opsF C all l).app rec ds (e.put dst (.tup [])) h := by
  show (match wanted all e ⟨dst, op, ty, pos, after, some g⟩ with | some true => contR rec h (fun v h' => (opsF C all l).app rec ds (putF dst e v) h') ((opF C op).app e h h) | some false => (opsF C all l).app rec ds (putF dst e (.tup [])) h | none => none) = _
  rw [hw]; simp only [putF_ok]
theorem r0_run (rec : Job → Option Out) (e : Env) (h : Heap) : (codeF CX R0).app rec none [] e h = some (.code .normal [] (e.set 6 (.bool false)) h) := by
  simp only [R0, body3, Tryz.f3, Option.getD_some, fstC]
  simp [cF_region, oF_cons, oF_nil, opEval, opdU_bool, asVal_eq, contR_val, put_some]
theorem known_str (s : List Nat) : (AV.str s).known = some (.str s) := rfl
theorem bin_gtr (C : Ctx) (t : TypeId) (k : IntKind) (a b : Int) : binOf C .gtr t (some (.int k a)) (some (.int k b)) = some (.bool (ilt b a)) := by cases k <;> rfl
theorem r1_run (rec : Job → Option Out) (e : Env) (h : Heap) (s : List Nat) (bv : AV) (n : Nat) (hn : e.n = 106) (h0 : e.get 0 = .str s) (h2 : e.get 2 = bv) (hk : bv.known = some bv)
    (hl : lenAV h (some (.slice 5)) (some [bv]) = some (.int .i64 (.ofNat n))) :
    ∃ e' b, (codeF CX R1).app rec none [] e h = some (.code .normal [] e' h) ∧ e'.get 25 = .bool b ∧ e'.get 0 = .str s ∧ e'.get 1 = e.get 1 ∧ e'.n = 106 := by
  have hls : lenAV h (some .string) (some [.str s]) = some (.int .i64 (.ofNat s.length)) := rfl
  simp only [R1, body3, Tryz.f3, Option.getD_some, fstC, sndC]
  cases hc : ilt 500 (Int.ofNat s.length) with
  | true =>
    simp [cF_region, oF_cons, oF_nil, oF_false, wanted, opEval, opd_tmp, opdU_tmp, opd_int, opd_bool, opdU_bool, h0, h2, known_str, known_int, known_bool, callR, builtinR, opds, typeArg, undX9, hls, asVal_eq, asRd_eq, contR_val, contR_rd, put_some, Env.get_set, Env.n_set, hn, bin_gtr, hc, pickAV, -Int.ofNat_eq_natCast]
  | false =>
    simp [cF_region, oF_cons, oF_nil, oF_true, wanted, opEval, opd_tmp, opdU_tmp, opd_int, opd_bool, opdU_bool, h0, h2, known_str, known_int, known_bool, callR, builtinR, opds, typeArg, undX9, undX22, hls, hk, hl, asVal_eq, asRd_eq, contR_val, contR_rd, put_some, Env.get_set, Env.n_set, hn, bin_gtr, hc, pickAV, -Int.ofNat_eq_natCast]
end Go.Ev
namespace Go.Ev
open Go.Proofs
noncomputable def unkTr : Nat → Tr AV
  | 0 => .leaf
  | k + 1 => (unkTr k).put k .unk
noncomputable def eU (s : List Nat) (n : Int) : Env := { n := 106, t := ((unkTr 106).put 0 (.str s)).put 1 (.int .i64 n) }
noncomputable def retTrue : Option Out → Bool
  | some (.code .ret [] e _) =>
    match e.get 6 with
    | .bool b => b
    | _ => false
  | _ => false
theorem evalKnownWay (s : List Nat) (n : Int) : retTrue (fast CX 100000 (.code none RA [] (eU s n) (ofL 0 []))) = true := by kernel_rfl
theorem evalRest (s : List Nat) (n : Int) : retTrue (fast CX 100000 (.code none RR [] (eU s n) (ofL 0 []))) = true := by kernel_rfl
end Go.Ev
namespace Go.Ev
open Go.Proofs Go.RowKit
set_option linter.unusedSimpArgs false
set_option linter.unusedVariables false

theorem Rel.zero {S : String → Code → Prop} {F : Fr} {j : Emb} {G : Nat → Option AObj} {n : Nat} {w : World} (R : Rel S F j G n w) : Rel S F (fun _ => none) (ofL 0 []).get (ofL 0 []).next w := by
  have hg : ∀ b, (ofL 0 []).get b = none := fun b => Tr.get_leaf b
  exact { objs := fun b o h => by rw [hg] at h; cases h
          inj := fun b b' o o' c c' h => by rw [hg] at h; cases h
          fresh := fun b _ => ⟨rfl, hg b⟩
          keep := R.keep
          apart := fun b o c h => by rw [hg] at h; cases h
          roFr := fun b cs c h => by rw [hg] at h; cases h
          os := R.os
          output := R.output
          tape := R.tape }
/-- The frame of a call: all that there is. -/
noncomputable def frameOf (w : World) : Fr := { blocks := fun c => w.heap[c]?, ro := fun c => (w.heap[c]?).isSome = true, roIn := fun _ h => h, os := w.os, output := w.output, tape := w.tape }
theorem below_of {S : String → Code → Prop} {j : Emb} {G : Nat → Option AObj} {n : Nat} {w w' : World} (R : Rel S (frameOf w) j G n w') : Below w.heap.size w w' where
  os := R.os
  tape := R.tape
  output := R.output
  size := by
    by_cases h : w.heap.size ≤ w'.heap.size
    · exact h
    · have hk : w'.heap.size < w.heap.size := by omega
      have := R.keep w'.heap.size (w.heap[w'.heap.size]) (Array.getElem?_eq_getElem hk)
      have := (Array.getElem?_eq_some_iff.1 this).1
      omega
  block := fun k hk => by
    rw [Array.getElem?_eq_getElem hk]
    exact R.keep k _ (Array.getElem?_eq_getElem hk)
theorem rel_start {S : String → Code → Prop} (w : World) (i : Emb) (hi : ∀ b, 1 ≤ b → i b = none) : Rel S (frameOf w) i ({ next := 1, objs := .leaf } : Heap).get 1 w := by
  have hg : ∀ b, ({ next := 1, objs := .leaf } : Heap).get b = none := fun b => Tr.get_leaf b
  exact { objs := fun b o h => by rw [hg] at h; cases h
          inj := fun b b' o o' c c' h => by rw [hg] at h; cases h
          fresh := fun b hb => ⟨hi b hb, hg b⟩
          keep := fun _ _ h => h
          apart := fun b o c h => by rw [hg] at h; cases h
          roFr := fun b cs c h => by rw [hg] at h; cases h
          os := rfl
          output := rfl
          tape := rfl }

/-- Code that runs to its end from an empty heap. -/
theorem code_ends {c : Code} {e : Env} (h : retTrue (fast CX 100000 (.code none c [] e (ofL 0 []))) = true) : ∃ e' h', e'.get 6 = .bool true ∧ CodeOk CX SS none c [] e (ofL 0 []) .ret [] e' h' := by
  cases hx : fast CX 100000 (.code none c [] e (ofL 0 [])) with
  | none => rw [hx] at h; simp [retTrue] at h
  | some out =>
    rw [hx] at h
    have hok := fast_ok ctxX _ _ _ hx
    unfold retTrue at h
    split at h
    · rename_i e' h' heq
      simp only [Option.some.injEq] at heq; subst heq
      split at h
      · rename_i b hb
        subst h
        exact ⟨e', h', hb, hok⟩
      · cases h
    · cases h
theorem unkTr_get : ∀ (k t : Nat), (unkTr k).get t = if t < k then some .unk else none
  | 0, t => by simp [unkTr, Tr.get_leaf]
  | k + 1, t => by
    rw [unkTr, Tr.get_put, unkTr_get k t]
    by_cases h : t = k
    · rw [if_pos h, if_pos (by omega)]
    · rw [if_neg h]
      by_cases h2 : t < k
      · rw [if_pos h2, if_pos (by omega)]
      · rw [if_neg h2, if_neg (by omega)]
theorem eU_ok {j : Emb} {e : Env} {a : Array Value} {s : List Nat} {n : Int} (g : ERel j e a) (hn : e.n = 106) (h0 : e.get 0 = .str s) (h1 : e.get 1 = .int .i64 n) : ERel (fun _ => none) (eU s n) a := by
  have hsz : a.size = 106 := by rw [g.1, hn]
  refine ⟨hsz, fun t => ?_⟩
  have g0 := g.2 0
  have g1 := g.2 1
  rw [h0] at g0
  rw [h1] at g1
  unfold eU Env.get
  simp only [Tr.get_put, unkTr_get]
  by_cases ht1 : t = 1
  · subst ht1; simp only [if_true, VRel] at g1 ⊢; exact g1
  · rw [if_neg ht1]
    by_cases ht0 : t = 0
    · subst ht0; simp only [if_true, VRel] at g0 ⊢; exact g0
    · rw [if_neg ht0]
      by_cases ht : t < 106
      · rw [if_pos ht]; simp only [VRel]
      · rw [if_neg ht]
        have : a.getD t undef = undef := by rw [Array.getD_eq_getD_getElem?, Array.getElem?_eq_none (by omega)]; rfl
        rw [this]; simp only [VRel]; exact ⟨[], by simp [VRels], rfl⟩

theorem f3_at : CX.P.funcs[3]? = some Tryz.f3 := by kernel_rfl
theorem f3_body : Tryz.f3.body = some body3 := by kernel_rfl
theorem f3_ntmps : Tryz.f3.ntmps = 106 := by kernel_rfl
theorem f3_results : Tryz.f3.results.toList = [.tmp 6] := by kernel_rfl
theorem whole0 : whole R0 = true := by kernel_rfl
theorem whole1 : whole R1 = true := by kernel_rfl
theorem wholeA : whole RA = true := by kernel_rfl
theorem wholeR : whole RR = true := by kernel_rfl

theorem law_calls (a0 : ByteArray) (a1 : Int) (x : Value) (w : World) (bv : AV) (i : Emb) (n : Nat) (hb : VRel i bv x) (hk : bv.known = some bv) (hl : ∀ h, lenAV h (some (.slice 5)) (some [bv]) = some (.int .i64 (.ofNat n))) (hi : ∀ b, 1 ≤ b → i b = none) :
    CallsIn (fc none) 0 CX.P 3 #[.string a0, .int .i64 a1, x] w fun e w' => e = .returned (.bool true) ∧ Below w.heap.size w w' := by
  let s := a0.data.toList.map UInt8.toNat
  have gv : VRels i [.str s, .int .i64 a1, bv] [.string a0, .int .i64 a1, x] := by
    simp only [VRels, VRel]; exact ⟨⟨a0, rfl, rfl⟩, trivial, hb, trivial⟩
  refine callsIn_of_wp_marks f3_at f3_body trivial ?_
  have hE : ERel i { n := [AV.str s, .int .i64 a1, bv].length + (Tryz.f3.ntmps - [AV.str s, .int .i64 a1, bv].length), t := setArgs [.str s, .int .i64 a1, bv] 0 .leaf } (([.string a0, .int .i64 a1, x] : List Value).toArray ++ Array.replicate (Tryz.f3.ntmps - ([.string a0, .int .i64 a1, x] : List Value).toArray.size) undef) := start_ok gv
  obtain ⟨e0, he, hn, h0, h1, h2⟩ : ∃ e : Env, ({ n := [AV.str s, .int .i64 a1, bv].length + (Tryz.f3.ntmps - [AV.str s, .int .i64 a1, bv].length), t := setArgs [.str s, .int .i64 a1, bv] 0 .leaf } : Env) = e ∧ e.n = 106 ∧ e.get 0 = .str s ∧ e.get 1 = .int .i64 a1 ∧ e.get 2 = bv :=
    ⟨_, rfl, by simp [f3_ntmps], by simp [Env.get, setArgs, Tr.get_put], by simp [Env.get, setArgs, Tr.get_put], by simp [Env.get, setArgs, Tr.get_put]⟩
  rw [he] at hE
  have R0' := rel_start (S := SS) w i hi
  rw [body3_eq]
  have c0 := codeF_ok ctxX (fast_ok ctxX 5) _ R0 (Nat.le_refl _) none [] e0 { next := 1, objs := .leaf } _ (r0_run (fast CX 5) e0 _)
  have hw0 := (c0 R0 (frameOf w) i none { tmps := ([.string a0, .int .i64 a1, x] : List Value).toArray ++ Array.replicate (Tryz.f3.ntmps - ([.string a0, .int .i64 a1, x] : List Value).toArray.size) undef, defers := [] } w (CR.refl whole0) R0' hE rfl rfl).1
  refine wpIn_seq (wpIn_mono hw0 ?_)
  rintro _ a1' w1 ⟨rfl, j, hj, R1', E1, D1⟩
  obtain ⟨e1, b, g1, g25, g0, gg1, gn⟩ := r1_run (fast CX 5) (e0.set 6 (.bool false)) { next := 1, objs := .leaf } s bv n (by rw [Env.n_set, hn]) (by rw [get_other (by decide), h0]) (by rw [get_other (by decide), h2]) hk (hl _)
  rw [get_other (by decide), h1] at gg1
  have c1 := codeF_ok ctxX (fast_ok ctxX 5) _ R1 (Nat.le_refl _) none [] (e0.set 6 (.bool false)) { next := 1, objs := .leaf } _ g1
  refine wpIn_seq (wpIn_seq (wpIn_mono (c1 R1 (frameOf w) j none a1' w1 (CR.refl whole1) R1' E1 D1 rfl).1 ?_))
  rintro _ a2 w2 ⟨rfl, j2, hj2, R2', E2, D2⟩
  have hc : a2.eval (.tmp 25) = .bool b := by
    have := E2.2 25
    rw [g25] at this
    simp only [VRel] at this
    exact this
  have RZ := R2'.zero
  have EZ := eU_ok E2 gn g0 gg1
  have fin : ∀ {e' : Env} {h' : Heap} {a3 : Act} {w3 : World} {j3 : Emb}, e'.get 6 = .bool true → Rel SS (frameOf w) j3 h'.get h'.next w3 → ERel j3 e' a3.tmps → DRel j3 [] a3.defers →
      LeavesInM (fc none) 0 CX.P Tryz.f3 a3.tmps (fun e w' => e = .returned (.bool true) ∧ Below w.heap.size w w') a3.defers .returning w3 := by
    intro e' h' a3 w3 j3 h6 R3 E3 D3
    refine shut_ok (ds := []) (h' := h') rfl D3 R3 fun w' R' => ?_
    obtain ⟨y, hy, gy⟩ := results_ok ctxX.tab R' E3 (fn := Tryz.f3) (vs := [.bool true]) (by rw [f3_results]; simp [resultsAV, resultAV, h6])
    simp only [tupled, VRel] at gy
    subst gy
    exact ⟨_, hy, rfl, below_of R'⟩
  cases b with
  | true =>
    refine wpIn_cond_true hc ?_
    obtain ⟨e', h', h6, hok⟩ := code_ends (evalKnownWay s a1)
    refine wpIn_mono (hok RA (frameOf w) _ none a2 w2 (CR.refl wholeA) RZ EZ D2 rfl).1 ?_
    rintro _ a3 w3 ⟨rfl, j3, hj3, R3, E3, D3⟩
    exact fin h6 R3 E3 D3
  | false =>
    refine wpIn_cond_false hc (wpIn_skip ?_)
    obtain ⟨e', h', h6, hok⟩ := code_ends (evalRest s a1)
    refine wpIn_mono (hok RR (frameOf w) _ none a2 w2 (CR.refl wholeR) RZ EZ D2 rfl).1 ?_
    rintro _ a3 w3 ⟨rfl, j3, hj3, R3, E3, D3⟩
    exact fin h6 R3 E3 D3
end Go.Ev
