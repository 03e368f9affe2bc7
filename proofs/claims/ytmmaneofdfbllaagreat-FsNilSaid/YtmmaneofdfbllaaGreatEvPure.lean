/-
  EvPure: operations that touch no memory are as the model has them. No condition.
-/
import Derived.Test.YtmmaneofdfbllaaGreatEvNum
import Derived.Laws.Strings
import Derived.Laws.StructEq
import Derived.ChangeKeysEq
import Derived.Deep.MidRow
import Derived.Laws.Concat
set_option linter.unusedVariables false
set_option linter.unusedSimpArgs false
set_option linter.unusedSectionVars false
namespace Go.Ev

/-- The evaluator's tables are the program's. -/
structure Ctx.Tab (C : Ctx) : Prop where
  info : ∀ t i, C.info t = some i → C.P.info? t = some i

section
variable {C : Ctx} (hC : C.Tab) (w : World)
include hC

theorem und_ok {t : TypeId} {d : TypeDesc} (h : C.und t = some d) : C.P.underlying t = some d := by
  unfold Ctx.und at h
  split at h
  · rename_i i hi
    have hi' := hC.info _ _ hi
    split at h
    · rename_i n u hd
      split at h
      · rename_i j hj
        have hj' := hC.info _ _ hj
        unfold Program.underlying
        rw [hi']
        obtain ⟨d', x1, x2, x3, x4, x5, x6, x7, x8, x9⟩ := i
        simp only at hd
        subst hd
        simpa [hj'] using h
      · exact absurd h (by simp)
    · rename_i d' hd
      simp only [Option.some.injEq] at h
      unfold Program.underlying
      rw [hi']
      obtain ⟨d'', x1, x2, x3, x4, x5, x6, x7, x8, x9⟩ := i
      simp only at h hd
      subst h
      split
      · rename_i heq
        simp only [Option.some.injEq, TypeInfo.mk.injEq] at heq
        exact absurd heq.1 (hd _ _)
      · rename_i heq
        simp only [Option.some.injEq] at heq
        subst heq
        rfl
      · rename_i heq
        simp at heq
  · exact absurd h (by simp)

theorem size_ok {t : TypeId} {n : Nat} (h : C.size t = some n) : ∃ i, C.P.info? t = some i ∧ i.size = n := by
  unfold Ctx.size at h
  split at h
  · rename_i i hi
    exact ⟨i, hC.info _ _ hi, by simpa using h⟩
  · exact absurd h (by simp)
theorem bytes_ok {t : TypeId} {n : Nat} (h : C.bytes t = some n) : ∃ i, C.P.info? t = some i ∧ i.bytes = n := by
  unfold Ctx.bytes at h
  split at h
  · rename_i i hi
    exact ⟨i, hC.info _ _ hi, by simpa using h⟩
  · exact absurd h (by simp)
theorem run_size {t : TypeId} {n : Nat} (h : C.size t = some n) : (sizeOf t).run C.P w = .ok n w := by
  obtain ⟨i, hi, rfl⟩ := size_ok hC h
  simp [sizeOf, typeInfo, hi]
theorem run_agg {t : TypeId} {b : Bool} (h : C.isAgg t = some b) : (isAgg t).run C.P w = .ok b w := by
  unfold Ctx.isAgg at h
  cases hd : C.und t with
  | none => simp [hd] at h
  | some d =>
    have hu := und_ok hC hd
    rw [hd] at h
    simp only [isAgg, Sem.run_bind, run_underlying hu, Result.andThen_ok]
    cases d <;> simp only [Option.some.injEq] at h <;> subst h <;> rfl

end

/-! ### Constants and operands -/

theorem ofLit_ok {i : Emb} {x : Value} {v : AV} (h : ofLit x = some v) : VRel i v x := by
  unfold ofLit at h
  split at h <;> simp only [Option.some.injEq, reduceCtorEq] at h <;> subst h <;> simp [VRel]
theorem ofLits_ok {i : Emb} : ∀ {l : List Value} {vs : List AV}, ofLits l = some vs → VRels i vs l
  | [], _, h => by simp only [ofLits, Option.some.injEq] at h; subst h; simp [VRels]
  | x :: l, _, h => by
    simp only [ofLits] at h
    split at h
    · rename_i v vs hv hvs
      simp only [Option.some.injEq] at h; subst h
      simp only [VRels]
      exact ⟨ofLit_ok hv, ofLits_ok hvs⟩
    · exact absurd h (by simp)
theorem ofConst_ok {i : Emb} {x : Value} {v : AV} (h : ofConst x = some v) : VRel i v x := by
  unfold ofConst at h
  split at h
  · rename_i cs
    split at h
    · rename_i l hl
      simp only [Option.some.injEq] at h; subst h
      simp only [VRel]
      exact ⟨cs.toList, ofLits_ok hl, by simp⟩
    · exact absurd h (by simp)
  · rename_i cs
    split at h
    · rename_i l hl
      simp only [Option.some.injEq] at h; subst h
      simp only [VRel]
      exact ⟨cs.toList, ofLits_ok hl, by simp⟩
    · exact absurd h (by simp)
  · exact ofLit_ok h

theorem known_some {u v : AV} (h : u.known = some v) : v = u ∧ v ≠ .unk := by
  unfold AV.known at h
  split at h
  · exact absurd h (by simp)
  · rename_i hu
    simp only [Option.some.injEq] at h; subst h
    exact ⟨rfl, hu⟩
theorem opd_known {e : Env} {x : Operand} {v : AV} (h : opd e x = some v) : v ≠ .unk := by
  cases x with
  | tmp t => exact (known_some h).2
  | const c =>
    rintro rfl
    simp only [opd] at h
    unfold ofConst at h
    split at h
    · split at h <;> simp at h
    · split at h <;> simp at h
    · unfold ofLit at h; split at h <;> simp at h
  | global g => simp [opd] at h
  | func f => rintro rfl; simp [opd] at h
theorem opd_ok {i : Emb} {e : Env} {a : Act} (g : ERel i e a.tmps) {x : Operand} {v : AV} (h : opd e x = some v) : VRel i v (a.eval x) := by
  cases x with
  | tmp t => rw [(known_some h).1]; exact g.2 t
  | const c => exact ofConst_ok h
  | global g => simp [opd] at h
  | func f =>
    simp only [opd, Option.some.injEq] at h; subst h
    simp only [VRel, Act.eval]
    exact ⟨[], [], by simp [VRels], by simp [VRels], rfl⟩
theorem opds_ok {i : Emb} {e : Env} {a : Act} (g : ERel i e a.tmps) : ∀ {l : List Operand} {vs : List AV}, opds e l = some vs → VRels i vs (l.map a.eval)
  | [], _, h => by simp only [opds, Option.some.injEq] at h; subst h; simp [VRels]
  | x :: l, _, h => by
    simp only [opds] at h
    split at h
    · rename_i v vs hv hvs
      simp only [Option.some.injEq] at h; subst h
      simp only [List.map_cons, VRels]
      exact ⟨opd_ok g hv, opds_ok g hvs⟩
    · exact absurd h (by simp)
theorem opdU_ok {i : Emb} {e : Env} {a : Act} (g : ERel i e a.tmps) {x : Operand} {v : AV} (h : opdU e x = some v) : VRel i v (a.eval x) := by
  cases x with
  | tmp t => simp only [opdU, Option.some.injEq] at h; subst h; exact g.2 t
  | const c => exact opd_ok g h
  | global y => exact opd_ok g h
  | func f => exact opd_ok g h
theorem opdsU_ok {i : Emb} {e : Env} {a : Act} (g : ERel i e a.tmps) : ∀ {l : List Operand} {vs : List AV}, opdsU e l = some vs → VRels i vs (l.map a.eval)
  | [], _, h => by simp only [opdsU, Option.some.injEq] at h; subst h; simp [VRels]
  | x :: l, _, h => by
    simp only [opdsU] at h
    split at h
    · rename_i v vs hv hvs
      simp only [Option.some.injEq] at h; subst h
      simp only [List.map_cons, VRels]
      exact ⟨opdU_ok g hv, opdsU_ok g hvs⟩
    · exact absurd h (by simp)
theorem known_inj {u v : AV} (h : u.known = v.known) : u = v := by
  cases u <;> cases v <;> simp only [AV.known, Option.some.injEq, reduceCtorEq] at h <;> first | rfl | exact h
theorem opdU_congr {e e₂ : Env} {x : Operand} (h : opd e₂ x = opd e x) : opdU e₂ x = opdU e x := by
  cases x with
  | tmp t => simp only [opd] at h; simp only [opdU, known_inj h]
  | const c => exact h
  | global y => exact h
  | func f => exact h
theorem optOpd_ok {i : Emb} {e : Env} {a : Act} (g : ERel i e a.tmps) {x : Option Operand} {v : Option AV} (h : optOpd e x = some v) :
    (v = none ∧ x.map a.eval = none) ∨ ∃ u y, v = some u ∧ x.map a.eval = some y ∧ VRel i u y := by
  cases x with
  | none => simp only [optOpd, Option.some.injEq] at h; subst h; exact .inl ⟨rfl, rfl⟩
  | some x =>
    simp only [optOpd] at h
    split at h
    · rename_i u hu
      simp only [Option.some.injEq] at h; subst h
      exact .inr ⟨u, _, rfl, rfl, opd_ok g hu⟩
    · exact absurd h (by simp)

/-! ### Parts -/

theorem hasN_eq : ∀ (n : Nat) (l : List AV), hasN n l = decide (n ≤ l.length)
  | 0, l => (decide_eq_true (Nat.zero_le _)).symm
  | n + 1, [] => by simp [hasN]
  | n + 1, _ :: l => by have := hasN_eq n l; simp only [hasN, List.length_cons] at this ⊢; rw [this]; simp
theorem dropN_eq : ∀ (n : Nat) (l : List AV), dropN n l = if n ≤ l.length then some (l.drop n) else none
  | 0, l => by rw [if_pos (Nat.zero_le _)]; rfl
  | n + 1, [] => by simp [dropN]
  | n + 1, _ :: l => by have := dropN_eq n l; simp only [dropN, List.length_cons, List.drop_succ_cons] at this ⊢; rw [this]; simp
theorem takeN_eq : ∀ (n : Nat) (l : List AV), takeN n l = l.take n
  | 0, l => rfl
  | n + 1, [] => by simp [takeN]
  | n + 1, _ :: l => by have := takeN_eq n l; simp only [takeN, List.take_succ_cons] at this ⊢; rw [this]
theorem lenN_eq : ∀ l : List AV, lenN l = l.length
  | [] => rfl
  | _ :: l => by have := lenN_eq l; simp only [lenN, List.length_cons] at this ⊢; rw [this]
theorem overN_eq : ∀ (new l : List AV), new.length ≤ l.length → overN new l = new ++ l.drop new.length
  | [], l, _ => by simp [overN]
  | y :: new, [], h => by simp at h
  | y :: new, _ :: l, h => by have := overN_eq new l (by simpa using h); simp only [overN, List.length_cons, List.drop_succ_cons, List.cons_append] at this ⊢; rw [this]
theorem putN_eq : ∀ (n : Nat) (new l : List AV), n + new.length ≤ l.length → putN n new l = l.take n ++ new ++ l.drop (n + new.length)
  | 0, new, l, h => by have := overN_eq new l (by omega); rw [show putN 0 new l = overN new l from rfl, this]; simp
  | n + 1, new, [], h => by simp at h
  | n + 1, new, _ :: l, h => by
    have := putN_eq n new l (by simp at h; omega)
    simp only [putN, List.take_succ_cons, List.cons_append] at this ⊢
    rw [this, show n + 1 + new.length = (n + new.length) + 1 by omega, List.drop_succ_cons]
theorem nth_eq : ∀ (o : Nat) (l : List AV), nth l o = l[o]?
  | 0, [] => rfl
  | 0, _ :: _ => rfl
  | n + 1, [] => by simp [nth]
  | n + 1, _ :: l => by have := nth_eq n l; simp only [nth, List.getElem?_cons_succ] at this ⊢; rw [this]
theorem cut_eq (cs : List AV) (o n : Nat) : cut cs o n = if o + n ≤ cs.length then some ((cs.drop o).take n) else none := by
  unfold cut
  rw [dropN_eq]
  by_cases h : o ≤ cs.length
  · simp only [h, if_true, hasN_eq, takeN_eq, cond_dec, List.length_drop]
    by_cases h2 : o + n ≤ cs.length
    · rw [if_pos h2, if_pos (by omega)]
    · rw [if_neg h2, if_neg (by omega)]
  · simp only [h, if_false]; rw [if_neg (by omega)]
theorem splice_eq (cs : List AV) (o : Nat) (new : List AV) : splice cs o new = if o + new.length ≤ cs.length then some (cs.take o ++ new ++ cs.drop (o + new.length)) else none := by
  unfold splice
  rw [dropN_eq]
  by_cases h : o ≤ cs.length
  · simp only [h, if_true, hasN_eq, lenN_eq, cond_dec, List.length_drop]
    by_cases h2 : o + new.length ≤ cs.length
    · rw [if_pos h2, if_pos (by omega), putN_eq _ _ _ h2]
    · rw [if_neg h2, if_neg (by omega)]
  · simp only [h, if_false]; rw [if_neg (by omega)]
theorem cut_ok {i : Emb} {cs : List AV} {xs : List Value} {o n : Nat} {l : List AV} (h : cut cs o n = some l) (g : VRels i cs xs) :
    VRels i l ((xs.drop o).take n) ∧ o + n ≤ xs.length ∧ l.length = n := by
  rw [cut_eq] at h
  split at h
  · rename_i hle
    simp only [Option.some.injEq] at h; subst h
    refine ⟨(g.drop o).take n, by rw [← g.length]; exact hle, ?_⟩
    simp; omega
  · exact absurd h (by simp)
theorem splice_ok {i : Emb} {cs : List AV} {xs : List Value} {o : Nat} {new : List AV} {ys : List Value} {l : List AV} (h : splice cs o new = some l)
    (g : VRels i cs xs) (hn : VRels i new ys) : VRels i l (xs.take o ++ ys ++ xs.drop (o + ys.length)) ∧ o + new.length ≤ cs.length ∧ l.length = cs.length := by
  rw [splice_eq] at h
  split at h
  · rename_i hle
    simp only [Option.some.injEq] at h; subst h
    rw [← hn.length]
    refine ⟨((g.take o).append hn).append (g.drop _), hle, ?_⟩
    simp; omega
  · exact absurd h (by simp)

theorem part_ok {C : Ctx} (hC : C.Tab) (w : World) {i : Emb} {t : TypeId} {cs : List AV} {xs : List Value} {o : Nat} {v : AV} (h : part C t cs o = some v) (g : VRels i cs xs) :
    ∃ x, (Go.part t xs.toArray o).run C.P w = .ok x w ∧ VRel i v x := by
  unfold part at h
  split at h
  · rename_i ha
    split at h
    · rename_i n hn
      split at h
      · rename_i l hl
        simp only [Option.some.injEq] at h; subst h
        obtain ⟨h1, h2, h3⟩ := cut_ok hl g
        refine ⟨.agg ((xs.drop o).take n).toArray, ?_, ?_⟩
        · simp only [Go.part, Sem.run_bind, run_agg hC w ha, Result.andThen_ok, if_true, run_size hC w hn, Sem.run_pure]
          congr 2
          apply Array.ext'
          simp
        · simp only [VRel]; exact ⟨_, h1, rfl⟩
      · exact absurd h (by simp)
    · exact absurd h (by simp)
  · rename_i ha
    rw [nth_eq] at h
    obtain ⟨x, hx, hv⟩ := VRels.get o g h
    refine ⟨x, ?_, hv⟩
    simp [Go.part, run_agg hC w ha, hx]
  · exact absurd h (by simp)

end Go.Ev
namespace Go.Ev

theorem foldl_set (off : Nat) : ∀ (vs : List Value) (k : Nat) (xs : Array Value), off + k + vs.length ≤ xs.size →
    (vs.zipIdx k).foldl (fun cs (p : Value × Nat) => cs.setIfInBounds (off + p.2) p.1) xs = (xs.toList.take (off + k) ++ vs ++ xs.toList.drop (off + k + vs.length)).toArray
  | [], k, xs, h => by simp
  | v :: vs, k, xs, h => by
    simp only [List.length_cons] at h
    simp only [List.zipIdx_cons, List.foldl_cons]
    rw [foldl_set off vs (k + 1) _ (by simp; omega)]
    congr 1
    simp only [Array.toList_setIfInBounds, List.length_cons]
    have e1 : (xs.toList.set (off + k) v).take (off + (k + 1)) = xs.toList.take (off + k) ++ [v] := by
      rw [show off + (k + 1) = (off + k) + 1 by omega]
      rw [List.take_add_one]
      simp [List.take_set_of_le, show off + k < xs.size by omega]
    have e2 : (xs.toList.set (off + k) v).drop (off + (k + 1) + vs.length) = xs.toList.drop (off + k + (vs.length + 1)) := by
      rw [List.drop_set_of_lt (by omega)]
      congr 1; omega
    rw [e1, e2]
    simp

theorem fillAt_ok {i : Emb} {cs : List AV} {xs : Array Value} {o n : Nat} {v : AV} {x : Value} {l : List AV} (h : fillAt cs o n v = some l)
    (g : VRels i cs xs.toList) (gv : VRel i v x) (hu : v ≠ .unk) :
    x.cells.size = n ∧ o + x.cells.size ≤ xs.size ∧ VRels i l (x.cells.zipIdx.foldl (fun cs (p : Value × Nat) => cs.setIfInBounds (o + p.2) p.1) xs).toList := by
  unfold fillAt at h
  rw [cond_beq] at h
  split at h
  · rename_i hn
    have gc := gv.ofCells hu
    have hl := gc.length
    obtain ⟨h1, h2, h3⟩ := splice_ok h g gc
    have hl' : xs.size = cs.length := by rw [← Array.length_toList]; exact g.length.symm
    simp only [Array.length_toList] at hl
    refine ⟨by omega, by omega, ?_⟩
    have := foldl_set o x.cells.toList 0 xs (by simp; omega)
    rw [← Array.foldl_toList, Array.toList_zipIdx]
    rw [this]
    simpa using h1
  · exact absurd h (by simp)

section
variable {C : Ctx} (hC : C.Tab) (w : World) {i : Emb} {e : Env} {a : Act} (g : ERel i e a.tmps)
include hC

theorem zero_ok {t : TypeId} {v : AV} (h : zero C t = some v) : ∃ inf z, C.P.info? t = some inf ∧ inf.zero = some z ∧ ∀ i, VRel i v z := by
  unfold zero at h
  split at h
  · rename_i inf hinf
    split at h
    · rename_i z hz
      exact ⟨inf, z, hC.info _ _ hinf, hz, fun i => ofConst_ok h⟩
    · exact absurd h (by simp)
  · exact absurd h (by simp)
theorem run_zero {t : TypeId} {v : AV} (h : zero C t = some v) : ∃ z, (zeroValue t).run C.P w = .ok z w ∧ ∀ i, VRel i v z := by
  obtain ⟨inf, z, h1, h2, h3⟩ := zero_ok hC h
  exact ⟨z, by simp [zeroValue, typeInfo, h1, h2], h3⟩
omit hC in
theorem ofConst_known {x : Value} {v : AV} (h : ofConst x = some v) : v ≠ .unk := opd_known (e := { n := 0, t := .leaf }) (x := .const x) h
theorem zeros_ok {t : TypeId} {cs : List AV} (h : zeros C t = some cs) :
    ∃ inf z, C.P.info? t = some inf ∧ inf.zero = some z ∧ ∀ i, VRels i cs z.cells.toList := by
  unfold zeros at h
  split at h
  · rename_i v hv
    simp only [Option.some.injEq] at h; subst h
    obtain ⟨inf, z, h1, h2, h3⟩ := zero_ok hC hv
    refine ⟨inf, z, h1, h2, fun i => (h3 i).ofCells ?_⟩
    unfold zero at hv
    split at hv
    · split at hv
      · exact ofConst_known hv
      · exact absurd hv (by simp)
    · exact absurd hv (by simp)
  · exact absurd h (by simp)

include g

omit g in
/-- Where the fields lie. -/
theorem run_places (fs : List Field) (hf : allSized C fs = true) :
    ∃ ps : List (Nat × Nat), (fs.mapM (fun f : Field => do pure (f.offset, ← sizeOf f.type)) : Sem (List (Nat × Nat))).run C.P w = .ok ps w ∧
      ∀ (j : Nat) (f : Field) (n : Nat), fs[j]? = some f → C.size f.type = some n → ps[j]? = some (f.offset, n) := by
  induction fs with
  | nil => exact ⟨[], by simp [List.mapM_nil], by simp⟩
  | cons f fs ih =>
    simp only [allSized] at hf
    split at hf
    · rename_i n hn
      obtain ⟨ps, h1, h2⟩ := ih hf
      refine ⟨(f.offset, n) :: ps, ?_, ?_⟩
      · simp only [List.mapM_cons, Sem.run_bind, run_size hC w hn, Result.andThen_ok, Sem.run_pure, h1]
      · intro j f' n' hj hn'
        cases j with
        | zero => simp at hj; subst hj; rw [hn] at hn'; simp at hn'; simp [hn']
        | succ j => simpa using h2 j f' n' (by simpa using hj) hn'
    · exact absurd hf (by simp)

omit hC in
theorem fillFields_ok {fs : List Field} {ps : List (Nat × Nat)} (hp : ∀ (j : Nat) (f : Field) (n : Nat), fs[j]? = some f → C.size f.type = some n → ps[j]? = some (f.offset, n)) :
    ∀ {l : List (Nat × Operand)} {cs out : List AV} {xs : Array Value}, fillFields C e fs l cs = some out → VRels i cs xs.toList →
      ∃ ys, Instr.fill (ps.toArray[·]?) xs (l.map fun p => (p.1, a.eval p.2)) = some ys ∧ VRels i out ys.toList
  | [], cs, out, xs, h, hx => by
    simp only [fillFields, Option.some.injEq] at h; subst h
    exact ⟨xs, rfl, hx⟩
  | (j, x) :: l, cs, out, xs, h, hx => by
    simp only [fillFields] at h
    split at h
    · rename_i f v hf hv
      split at h
      · rename_i n hn
        split at h
        · rename_i cs' hcs
          obtain ⟨h1, h2, h3⟩ := fillAt_ok hcs hx (opd_ok g hv) (opd_known hv)
          obtain ⟨ys, hy, hr⟩ := fillFields_ok hp h h3
          refine ⟨ys, ?_, hr⟩
          have := hp j f n hf hn
          have hq : ps.toArray[j]? = some (f.offset, n) := by simpa using this
          simp only [List.map_cons, Instr.fill, hq]
          rw [if_neg (by simp; omega)]
          exact hy
        · exact absurd h (by simp)
      · exact absurd h (by simp)
    · exact absurd h (by simp)

omit hC in
theorem fillElems_ok {n : Nat} : ∀ {l : List (Nat × Operand)} {cs out : List AV} {xs : Array Value}, fillElems e n l cs = some out → VRels i cs xs.toList →
      ∃ ys, Instr.fill (fun j => some (j * n, n)) xs (l.map fun p => (p.1, a.eval p.2)) = some ys ∧ VRels i out ys.toList
  | [], cs, out, xs, h, hx => by
    simp only [fillElems, Option.some.injEq] at h; subst h
    exact ⟨xs, rfl, hx⟩
  | (j, x) :: l, cs, out, xs, h, hx => by
    simp only [fillElems] at h
    split at h
    · rename_i v hv
      split at h
      · rename_i cs' hcs
        obtain ⟨h1, h2, h3⟩ := fillAt_ok hcs hx (opd_ok g hv) (opd_known hv)
        obtain ⟨ys, hy, hr⟩ := fillElems_ok h h3
        refine ⟨ys, ?_, hr⟩
        simp only [List.map_cons, Instr.fill]
        rw [if_neg (by simp; omega)]
        exact hy
      · exact absurd h (by simp)
    · exact absurd h (by simp)

theorem build_ok {t : TypeId} {ps : Array (Nat × Operand)} {v : AV} (h : buildAV C e ps.toList (zeros C t) (C.und t) = some v) :
    ∃ x, (Instr.build t (ps.map fun (i, x) => (i, a.eval x))).run C.P w = .ok x w ∧ VRel i v x := by
  unfold buildAV at h
  split at h
  · rename_i fs hd
    split at h
    · rename_i z hz
      cases hs : allSized C fs.toList with
      | false => simp [hs] at h
      | true =>
        simp only [hs, cond_true, aggOf] at h
        split at h
        · rename_i cs hcs
          simp only [Option.some.injEq] at h; subst h
          obtain ⟨inf, zv, h1, h2, h3⟩ := zeros_ok hC hz
          obtain ⟨pl, hp1, hp2⟩ := run_places hC w fs.toList hs
          obtain ⟨ys, hy, hr⟩ := fillFields_ok g hp2 hcs (h3 i)
          refine ⟨.agg ys, ?_, by simp only [VRel]; exact ⟨ys.toList, hr, by simp⟩⟩
          have hu := und_ok hC hd
          have hm : (fs.mapM (fun f : Field => do pure (f.offset, ← sizeOf f.type)) : Sem (Array (Nat × Nat))).run C.P w = .ok pl.toArray w := by
            rw [Array.mapM_eq_mapM_toList]
            rw [show (List.toArray <$> fs.toList.mapM (fun f : Field => do pure (f.offset, ← sizeOf f.type)) : Sem (Array (Nat × Nat))).run C.P w = _ from Sem.run_map C.P w _ _, hp1]
            rfl
          have hl : (ps.map fun (p : Nat × Operand) => (p.1, a.eval p.2)).toList = ps.toList.map fun p => (p.1, a.eval p.2) := by simp
          simp only [Instr.build, Sem.run_bind, zeroValue, typeInfo, run_program, Result.andThen_ok, h1, h2, Sem.run_pure, run_underlying hu]
          rw [hm]
          simp only [Result.andThen_ok, hl, hy, Sem.run_pure]
        · exact absurd h (by simp)
    · exact absurd h (by simp)
  · rename_i n el hd
    split at h
    · rename_i z m hz hm
      simp only [aggOf] at h
      split at h
      · rename_i cs hcs
        simp only [Option.some.injEq] at h; subst h
        obtain ⟨inf, zv, h1, h2, h3⟩ := zeros_ok hC hz
        obtain ⟨ys, hy, hr⟩ := fillElems_ok g hcs (h3 i)
        refine ⟨.agg ys, ?_, by simp only [VRel]; exact ⟨ys.toList, hr, by simp⟩⟩
        have hu := und_ok hC hd
        have hl : (ps.map fun (p : Nat × Operand) => (p.1, a.eval p.2)).toList = ps.toList.map fun p => (p.1, a.eval p.2) := by simp
        simp only [Instr.build, Sem.run_bind, zeroValue, typeInfo, run_program, Result.andThen_ok, h1, h2, Sem.run_pure, run_underlying hu, run_size hC w hm, hl, hy]
      · exact absurd h (by simp)
    · exact absurd h (by simp)
  · exact absurd h (by simp)

end
end Go.Ev
namespace Go.Ev

section
variable {C : Ctx} (hC : C.Tab) (w : World) {i : Emb} {e : Env} {a : Act} (g : ERel i e a.tmps)

theorem fieldOf_ok {f : Nat} {d : Option TypeDesc} {fd : Field} (h : fieldOf f d = some fd) : ∃ fs, d = some (.struct fs) ∧ fs[f]? = some fd := by
  unfold fieldOf at h
  split at h
  · rename_i fs; exact ⟨fs, rfl, by simpa using h⟩
  · exact absurd h (by simp)

include hC in
theorem fieldAddr_ok {t : TypeId} {f : Nat} {v u : AV} {x : Value} (gv : VRel i u x) (h : fieldAddrAV C (some u) (fieldOf f (C.und t)) = some v) :
    ∃ y, (Instr.fieldAt t x f).run C.P w = .ok y w ∧ VRel i v y := by
  unfold fieldAddrAV at h
  split at h
  · rename_i fd hf
    obtain ⟨fs, hd, hfs⟩ := fieldOf_ok hf
    split at h
    · rename_i b o n heq hn
      simp only [Option.some.injEq] at heq h; subst heq h
      simp only [VRel] at gv ⊢
      obtain ⟨c, hc, rfl⟩ := gv
      refine ⟨.pointer (some ⟨c.1, o + fd.offset, none⟩), ?_, c, hc, rfl⟩
      simp only [Instr.fieldAt, Sem.run_bind, run_underlying (und_ok hC hd), Result.andThen_ok, hfs, Instr.sureAddr, Sem.run_pure, fieldPlace, run_size hC w hn]
      simp [Addr.add_mid]
    · exact absurd h (by simp)
  · exact absurd h (by simp)

include hC in
theorem field_ok {t : TypeId} {f : Nat} {v u : AV} {x : Value} (gv : VRel i u x) (h : fieldAV C (some u) (fieldOf f (C.und t)) = some v) :
    ∃ y, (Instr.field t x f).run C.P w = .ok y w ∧ VRel i v y := by
  unfold fieldAV at h
  split at h
  · rename_i fd hf
    obtain ⟨fs, hd, hfs⟩ := fieldOf_ok hf
    split at h
    · rename_i cs heq
      simp only [Option.some.injEq] at heq; subst heq
      simp only [VRel] at gv
      obtain ⟨xs, hxs, rfl⟩ := gv
      obtain ⟨y, hy, hv⟩ := part_ok hC w h hxs
      refine ⟨y, ?_, hv⟩
      simp only [Instr.field, Sem.run_bind, run_underlying (und_ok hC hd), Result.andThen_ok, hfs, asAgg, Sem.run_pure, hy]
    · exact absurd h (by simp)
  · exact absurd h (by simp)

include hC in
theorem indexAddr_ok {t : TypeId} {v u j : AV} {x y : Value} (gv : VRel i u x) (gj : VRel i j y) (h : indexAddrAV C (some u) (some j) (C.und t) = some v) :
    ∃ z, (Instr.indexAt t x y).run C.P w = .ok z w ∧ VRel i v z := by
  unfold indexAddrAV at h
  split at h
  · rename_i len el hd
    split at h
    · rename_i b o k m n h1 h2 hn
      simp only [Option.some.injEq] at h1 h2; subst h1 h2
      rw [cond_blt] at h
      split at h
      · rename_i hlt
        simp only [Option.some.injEq] at h; subst h
        simp only [VRel] at gv gj ⊢
        obtain ⟨c, hc, rfl⟩ := gv
        subst gj
        refine ⟨.pointer (some ⟨c.1, o + m * n, none⟩), ?_, c, hc, rfl⟩
        simp only [Instr.indexAt, asIntOf, Sem.run_bind, Sem.run_pure, Result.andThen_ok, run_underlying (und_ok hC hd), Instr.sureAddr]
        simp [hlt, run_size hC w hn, Addr.add_mid]
      · exact absurd h (by simp)
    · exact absurd h (by simp)
  · rename_i el hd
    split at h
    · rename_i b o len cp k m n h1 h2 hn
      simp only [Option.some.injEq] at h1 h2; subst h1 h2
      rw [cond_blt] at h
      split at h
      · rename_i hlt
        simp only [Option.some.injEq] at h; subst h
        simp only [VRel] at gv gj ⊢
        obtain ⟨c, cm, hc, rfl, _⟩ := gv
        subst gj
        refine ⟨.pointer (some ⟨c.1, o + m * n, none⟩), ?_, c, hc, rfl⟩
        simp only [Instr.indexAt, asIntOf, Sem.run_bind, Sem.run_pure, Result.andThen_ok, run_underlying (und_ok hC hd)]
        simp [hlt, run_size hC w hn, Addr.add_mid]
      · exact absurd h (by simp)
    · exact absurd h (by simp)
  · exact absurd h (by simp)

theorem str_get {s : List Nat} {t : ByteArray} (h : t.data.toList.map UInt8.toNat = s) {k b : Nat} (hk : s[k]? = some b) :
    ∃ x, t[k]? = some x ∧ x.toNat = b := by
  subst h
  rw [List.getElem?_map] at hk
  cases hx : t.data.toList[k]? with
  | none => simp [hx] at hk
  | some x =>
    simp [hx] at hk
    refine ⟨x, ?_, hk⟩
    have hlt : k < t.size := by
      have h1 := (List.getElem?_eq_some_iff.1 hx).1
      rw [Array.length_toList] at h1
      exact h1
    rw [getElem?_pos t k hlt]
    have := (List.getElem?_eq_some_iff.1 hx).2
    simp only [Option.some.injEq]
    rw [← this]
    rfl

include hC in
theorem index_ok {t : TypeId} {v u j : AV} {x y : Value} (gv : VRel i u x) (gj : VRel i j y) (h : indexAV C (some u) (some j) (C.und t) = some v) :
    ∃ z, (Instr.index t x y).run C.P w = .ok z w ∧ VRel i v z := by
  unfold indexAV at h
  split at h
  · rename_i len el hd
    split at h
    · rename_i cs k m n h1 h2 hn
      simp only [Option.some.injEq] at h1 h2; subst h1 h2
      rw [cond_blt] at h
      split at h
      · rename_i hlt
        simp only [VRel] at gv gj
        obtain ⟨xs, hxs, rfl⟩ := gv
        subst gj
        obtain ⟨z, hz, hv⟩ := part_ok hC w h hxs
        refine ⟨z, ?_, hv⟩
        simp only [Instr.index, asIntOf, Sem.run_bind, Sem.run_pure, Result.andThen_ok, run_underlying (und_ok hC hd)]
        simp [hlt, run_size hC w hn, hz]
      · exact absurd h (by simp)
    · exact absurd h (by simp)
  · rename_i hd
    split at h
    · rename_i s k m h1 h2
      simp only [Option.some.injEq] at h1 h2; subst h1 h2
      unfold byteAV at h
      split at h
      · rename_i b hb
        simp only [Option.some.injEq] at h; subst h
        simp only [VRel] at gv gj ⊢
        obtain ⟨t', rfl, ht⟩ := gv
        subst gj
        obtain ⟨x, hx, hxb⟩ := str_get ht hb
        refine ⟨.int .u8 b, ?_, rfl⟩
        simp only [Instr.index, asIntOf, Sem.run_bind, Sem.run_pure, Result.andThen_ok, run_underlying (und_ok hC hd)]
        have hm : ((Int.ofNat m).toNat) = m := rfl
        simp [hx, hxb]
      · exact absurd h (by simp)
    · exact absurd h (by simp)
  · exact absurd h (by simp)

/-! ### Strings -/

theorem listEq_eq : ∀ (x y : List Nat), listEq x y = decide (x = y)
  | [], [] => rfl
  | [], _ :: _ => rfl
  | _ :: _, [] => rfl
  | a :: x, b :: y => by
    simp only [listEq, cond_beq, listEq_eq x y]
    by_cases h : a = b <;> simp [h]
theorem map_toNat_inj : ∀ {x y : List UInt8}, x.map UInt8.toNat = y.map UInt8.toNat → x = y
  | [], [], _ => rfl
  | [], _ :: _, h => by simp at h
  | _ :: _, [], h => by simp at h
  | a :: x, b :: y, h => by
    simp only [List.map_cons, List.cons.injEq] at h
    rw [UInt8.toNat_inj.1 h.1, map_toNat_inj h.2]
theorem listEq_bytes (x y : ByteArray) : listEq (x.data.toList.map UInt8.toNat) (y.data.toList.map UInt8.toNat) = (x.toList == y.toList) := by
  rw [listEq_eq, ByteArray.toList_eq, ByteArray.toList_eq, Bool.eq_iff_iff]
  simp only [decide_eq_true_eq, beq_iff_eq]
  exact ⟨map_toNat_inj, fun h => by rw [h]⟩
theorem listLess_bytes : ∀ (x y : List UInt8), listLess (x.map UInt8.toNat) (y.map UInt8.toNat) = Op.bytesLess x y
  | _, [] => by simp [listLess, Op.bytesLess]
  | [], b :: y => by simp [listLess, Op.bytesLess]
  | a :: x, b :: y => by
    simp only [List.map_cons, listLess, Op.bytesLess, cond_blt, cond_beq, listLess_bytes x y]
    by_cases h1 : a < b
    · have : a.toNat < b.toNat := UInt8.lt_iff_toNat_lt.1 h1
      simp [h1, this]
    · have h1' : ¬ a.toNat < b.toNat := fun h => h1 (UInt8.lt_iff_toNat_lt.2 h)
      by_cases h2 : a = b
      · simp [h2]
      · have h2' : ¬ a.toNat = b.toNat := fun h => h2 (UInt8.toNat_inj.1 h)
        simp [h1, h1', h2, h2']

theorem strOp_ok {P : Program} (w : World) {op : BinOp} {s u : List Nat} {x y : ByteArray} {v : AV} (hx : x.data.toList.map UInt8.toNat = s) (hy : y.data.toList.map UInt8.toNat = u)
    (h : strOp op s u = some v) : ∃ z, (Op.stringOp op x y).run P w = .ok z w ∧ ∀ i, VRel i v z := by
  subst hx hy
  have hl : listLess (x.data.toList.map UInt8.toNat) (y.data.toList.map UInt8.toNat) = Op.bytesLess x.toList y.toList := by
    rw [ByteArray.toList_eq, ByteArray.toList_eq]; exact listLess_bytes _ _
  have hq := listEq_bytes x y
  cases op <;> simp only [strOp, Option.some.injEq, reduceCtorEq] at h
  case add =>
    rw [cond_ble] at h
    split at h
    · rename_i hle
      simp only [Option.some.injEq] at h; subst h
      simp only [List.length_map, Array.length_toList] at hle
      refine ⟨.string (x ++ y), run_string_add_sum w x y (by simp only [ByteArray.size]; omega), fun i => ?_⟩
      simp only [VRel]
      exact ⟨_, rfl, by simp [ByteArray.data_append]⟩
    · exact absurd h (by simp)
  all_goals
    subst h
    refine ⟨_, rfl, fun i => ?_⟩
    simp only [VRel, hq, hl]

end
end Go.Ev
