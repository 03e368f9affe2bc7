/-
  EvNew: operations that make blocks, and stores. No condition.
-/
import Derived.Test.YtmmaneofdfbllaaGreatEvRead
import Derived.Laws.MakeOwn
import Derived.Laws.IdiomStrings
set_option linter.unusedVariables false
set_option linter.unusedSimpArgs false
set_option linter.unusedSectionVars false
namespace Go.Ev
noncomputable section

theorem grown_le (w : World) (need old : Nat) (el : TypeId) : need ≤ grownCap w need old el := by
  unfold grownCap Question.cut
  exact Nat.le_add_right _ _

/-- Rows of zeros. -/
theorem rep_ok {i : Emb} {z : List AV} {zc : Array Value} (hz : VRels i z zc.toList) : ∀ n, VRels i (rep z n) (madeCells zc (n * zc.size)).toList := by
  have key : ∀ n, (madeCells zc (n * zc.size)).toList = (List.replicate n zc.toList).flatten := by
    intro n
    unfold madeCells
    simp only [Array.toList_map, Array.toList_range]
    induction n with
    | zero => simp
    | succ n ih =>
      rw [List.replicate_succ, List.flatten_cons, ← ih, Nat.succ_mul, Nat.add_comm, List.range_add, List.map_append, List.map_map]
      congr 1
      · apply List.ext_getElem
        · simp
        · intro j h1 h2
          simp only [List.getElem_map, List.getElem_range]
          have hj : j < zc.size := by simpa using h2
          rw [Nat.mod_eq_of_lt hj]
          simp [hj]
      · apply List.map_congr_left
        intro j hj
        simp
  intro n
  rw [key]
  induction n with
  | zero => simp [rep, VRels]
  | succ n ih =>
    rw [List.replicate_succ, List.flatten_cons]
    exact hz.append ih

section
variable {S : String → Code → Prop} {i : Emb} {w : World} {C : Ctx} (hC : C.Tab) {e : Env} {a : Act} (g : ERel i e a.tmps)

/-- What is asked of an operation that makes a block. -/
def NewOk (S : String → Code → Prop) (i : Emb) (w : World) (m : Sem Value) (P : Program) (ob : AObj) (mk : Nat → AV) : Prop :=
  ∃ (x : Value) (w' : World) (O : Obj) (tot : Nat), m.run P w = .ok x w' ∧ w'.heap = w.heap.push O ∧ w'.os = w.os ∧ w'.output = w.output ∧ w'.tape = w.tape ∧ ob.own = true ∧
    ∀ (j : Emb) (b : Nat), i.Le j → j b = some (w.heap.size, tot) → VRel j (mk b) x ∧ ORel S j tot ob (some O)

theorem rowRel_new {j : Emb} {cs : List AV} {arr : Array Value} {el : TypeId} (h : VRels j cs (arr.toList.take cs.length)) (hl : cs.length ≤ arr.size) :
    RowRel j arr.size cs (some (.cells arr el (0, 0))) := ⟨arr, el, 0, 0, rfl, rfl, hl, h, .inl rfl⟩
theorem rowRel_whole {j : Emb} {cs : List AV} {arr : Array Value} {el : TypeId} (h : VRels j cs arr.toList) :
    RowRel j arr.size cs (some (.cells arr el (0, 0))) := by
  have hl : cs.length = arr.size := by rw [h.length]; simp
  exact rowRel_new (by rw [List.take_of_length_le (by simp; omega)]; exact h) (by omega)

theorem newVar_ok {P : Program} {t : TypeId} {z : Value} {cs : List AV} (hz : ∀ j : Emb, i.Le j → VRels j cs z.cells.toList) :
    NewOk S i w (do pure (.pointer (some (← newVar t z)))) P (.cells cs) ptrAt := by
  refine ⟨.pointer (some ⟨w.heap.size, 0, none⟩), w.alloc (.cells z.cells t), .cells z.cells t (0, 0), z.cells.size, ?_, rfl, rfl, rfl, rfl, rfl, ?_⟩
  · simp [newVar, newRow]
  · intro j b hij hb
    refine ⟨?_, rowRel_whole (hz j hij)⟩
    simp only [ptrAt, VRel]
    exact ⟨_, hb, rfl⟩

include hC g in
theorem new_ok {o : Oper} {s gg : Heap} {ob : AObj} {mk : Nat → AV} (h : opEval C e s gg o.op = .new ob mk) :
    ∃ m : Sem Value, execOp a.eval o = (do pure (.value (← m))) ∧ NewOk S i w m C.P ob mk := by
  obtain ⟨dst, op, type, pos, after, guard⟩ := o
  simp only at h
  have hk := kind_new h
  cases op <;> simp only [opEval] at h <;> simp only [execOp]
  case alloc t =>
    refine ⟨_, rfl, ?_⟩
    unfold allocR at h
    split at h
    · rename_i z hz
      simp only [OpR.new.injEq] at h
      obtain ⟨rfl, rfl⟩ := h
      obtain ⟨inf, zv, h1, h2, h3⟩ := zeros_ok hC hz
      obtain ⟨x, w', O, tot, hr, rest⟩ := newVar_ok (S := S) (P := C.P) (w := w) (t := t) (z := zv) (i := i) (fun j _ => h3 j)
      refine ⟨x, w', O, tot, ?_, rest⟩
      simp only [Instr.alloc, Sem.run_bind, zeroValue, typeInfo, run_program, Result.andThen_ok, h1, h2, Sem.run_pure]
      simpa only [Sem.run_bind, Sem.run_pure] using hr
    · cases h
  case box t x =>
    refine ⟨_, rfl, ?_⟩
    unfold boxR at h
    split at h
    · rename_i v hv
      simp only [OpR.new.injEq] at h
      obtain ⟨rfl, rfl⟩ := h
      exact newVar_ok (S := S) (P := C.P) (w := w) (t := t) (fun j hij => ((opd_ok g hv).mono hij).ofCells (opd_known hv))
    · cases h
  case buildSlice t n ps =>
    refine ⟨_, rfl, ?_⟩
    unfold buildSliceR at h
    split at h
    · rename_i el hd
      have hu := und_ok hC hd
      split at h
      · rename_i m z hm hz
        simp only [ble_nat, beq_nat, blt_nat] at h
        by_cases hc : (n * m ≤ 16777216 ∧ z.length = m) ∧ 0 < m
        · obtain ⟨⟨h1, h2⟩, h3⟩ := hc
          simp only [h1, h2, h3, decide_true, Bool.and_true, cond_true] at h
          unfold rowR at h
          split at h
          · rename_i cs hcs
            simp only [OpR.new.injEq] at h
            obtain ⟨rfl, rfl⟩ := h
            obtain ⟨inf, zv, g1, g2, g3⟩ := zeros_ok hC hz
            have hzs : zv.cells.size = m := by have := (g3 i).length; simp at this; omega
            have hzr : (zeroValue el).run C.P w = .ok zv w := by simp [zeroValue, typeInfo, g1, g2]
            have hrep := rep_ok (g3 i) n
            rw [hzs] at hrep
            obtain ⟨ys, hy, hr⟩ := fillElems_ok g hcs hrep
            have hl : (ps.map fun (p : Nat × Operand) => (p.1, a.eval p.2)).toList = ps.toList.map fun p => (p.1, a.eval p.2) := by simp
            refine ⟨.slice (some ⟨w.heap.size, 0, none⟩) n n, w.alloc (.cells ys el), .cells ys el (0, 0), ys.size, ?_, rfl, rfl, rfl, rfl, rfl, ?_⟩
            · have hsz := run_size hC w hm
              by_cases hn : n * m = 0
              · have e0 : madeCells zv.cells (n * m) = #[] := by rw [hn]; simp [madeCells]
                rw [e0] at hy
                simp only [Instr.buildSlice, Sem.run_bind, run_underlying hu, Result.andThen_ok, hsz, hn, if_true, hl, if_neg (show ¬ 0 > 2 ^ 24 by decide), Sem.run_pure]
                have : (Array.range 0).map (fun x => (#[] : Array Value)[x % (#[] : Array Value).size]!) = #[] := by simp
                simp only [this, hy, newRow, Sem.run_bind, run_newObj, Result.andThen_ok, Sem.run_pure]
                rfl
              · simp only [Instr.buildSlice, Sem.run_bind, run_underlying hu, Result.andThen_ok, hsz, if_neg (show ¬ n * m > 2 ^ 24 by omega), hn, if_false, Sem.run_pure, hl, hzr]
                have : (Array.range (n * m)).map (fun x => zv.cells[x % zv.cells.size]!) = madeCells zv.cells (n * m) := rfl
                simp only [this, hy, newRow, Sem.run_bind, run_newObj, Result.andThen_ok, Sem.run_pure]
                rfl
            · intro j b hij hb
              refine ⟨?_, rowRel_whole (hr.mono hij)⟩
              simp only [VRel]
              exact ⟨_, n, hb, rfl, rfl, Nat.le_refl _⟩
          · cases h
        · have : (decide (n * m ≤ 16777216) && decide (z.length = m) && decide (0 < m)) = false := by
            rw [Bool.eq_false_iff]; intro hh; apply hc; simpa using hh
          rw [this] at h
          cases h
      · cases h
    · cases h
  case makeSlice t l c =>
    refine ⟨_, rfl, ?_⟩
    unfold makeSliceR at h
    split at h
    · rename_i el hd
      have hu := und_ok hC hd
      split at h
      · rename_i kl l' kc c' hl hc
        have gl := opd_ok g hl
        have gc := opd_ok g hc
        simp only [VRel] at gl gc
        split at h
        · rename_i m z by' hm hz hby
          simp only [ble_nat, beq_nat, blt_nat] at h
          by_cases hcond : (((by' * c' ≤ 281474976710656 ∧ c' ≤ 281474976710656) ∧ l' ≤ c') ∧ z.length = m) ∧ 0 < m
          · obtain ⟨⟨⟨⟨h1, h2⟩, h3⟩, h4⟩, h5⟩ := hcond
            simp only [h1, h2, h3, h4, h5, decide_true, Bool.and_true, cond_true, rowR, OpR.new.injEq] at h
            obtain ⟨rfl, rfl⟩ := h
            obtain ⟨inf, zv, g1, g2, g3⟩ := zeros_ok hC hz
            obtain ⟨inf2, q1, q2⟩ := bytes_ok hC hby
            obtain ⟨inf3, r1, r2⟩ := size_ok hC hm
            rw [g1] at q1 r1; cases q1; cases r1
            have hzs : zv.cells.size = m := by have := (g3 i).length; simp at this; omega
            have hrun := run_make (P := C.P) w t el inf zv hu g1 g2 kl kc (Int.ofNat l') (Int.ofNat c') (Int.natCast_nonneg _) (by simpa using h3)
              (by rw [q2]; simp only [Int.ofNat_eq_natCast]; omega) (by simp only [Int.ofNat_eq_natCast]; omega)
            rw [r2] at hrun
            refine ⟨_, w.alloc (.cells (madeCells zv.cells (c' * m)) el), .cells (madeCells zv.cells (c' * m)) el (0, 0), c' * m, by rw [gl, gc]; exact hrun, rfl, rfl, rfl, rfl, rfl, ?_⟩
            intro j b hij hb
            refine ⟨?_, ?_⟩
            · simp only [VRel]
              exact ⟨_, c', hb, rfl, rfl, h3⟩
            · have := rowRel_whole (el := el) ((rep_ok (g3 j) c'))
              rw [size_madeCells, hzs] at this
              exact this
          · have : (decide (by' * c' ≤ 281474976710656) && decide (c' ≤ 281474976710656) && decide (l' ≤ c') && decide (z.length = m) && decide (0 < m)) = false := by
              rw [Bool.eq_false_iff]; intro hh; apply hcond; simpa using hh
            rw [this] at h
            cases h
        · cases h
      · cases h
    · cases h
  case makeMap t r =>
    refine ⟨_, rfl, ?_⟩
    have fin : ∀ m : Sem Value, m.run C.P w = .ok (.map (some w.heap.size)) (w.alloc (.map #[] 0)) → NewOk S i w m C.P (.map [] 0) mapAt := by
      intro m hm
      refine ⟨_, w.alloc (.map #[] 0), .map #[] 0, 0, hm, rfl, rfl, rfl, rfl, rfl, ?_⟩
      intro j b hij hb
      refine ⟨?_, ?_⟩
      · simp only [mapAt, VRel]; exact ⟨_, hb, rfl⟩
      · exact ⟨#[], rfl, by simp [plainEs, MRel], by simp, by simp [plainEs, keysApart], by simp [Stamps]⟩
    unfold makeMapR at h
    split at h
    · rename_i hr
      simp only [OpR.new.injEq] at h
      obtain ⟨rfl, rfl⟩ := h
      apply fin
      cases r with
      | none => simp [Instr.makeMap]
      | some r => simp only [optOpd] at hr; split at hr <;> simp at hr
    · rename_i k v kk n hd hr
      simp only [OpR.new.injEq] at h
      obtain ⟨rfl, rfl⟩ := h
      apply fin
      cases r with
      | none => simp [optOpd] at hr
      | some r =>
        have hu := und_ok hC hd
        rcases optOpd_ok g hr with ⟨e1, _⟩ | ⟨u, y, e1, e2, gy⟩
        · cases e1
        · simp only [Option.some.injEq] at e1; subst e1
          simp only [VRel] at gy; subst gy
          simp only [Option.map_some, Option.some.injEq] at e2
          simp [Instr.makeMap, e2, run_underlying hu, asInt, asIntOf]
    · cases h
  case convert src dst x =>
    unfold convertR at h
    split at h
    · have := is_asRd (textAV C s (by assumption) (opd e x)); simp_all [OpR.is, OpR.tag]
    · rename_i el _ _; have := is_sameSliceR C gg src dst el (opd e x); rw [h] at this; simp [OpR.is, OpR.tag] at this
    · rename_i el hs hd
      refine ⟨_, rfl, ?_⟩
      unfold bytesR at h
      split at h
      · rename_i st hx
        split at h
        · rename_i hel
          simp only [rowR, OpR.new.injEq] at h
          obtain ⟨rfl, rfl⟩ := h
          have gx := opd_ok g hx
          simp only [VRel] at gx
          obtain ⟨t, ht, hst⟩ := gx
          have hrun := run_bytes_of_string (P := C.P) w src dst el t (und_ok hC hs) (und_ok hC hd) (und_ok hC hel)
          rw [ht]
          have hlen : st.length = t.size := by rw [← hst, List.length_map, Array.length_toList]; rfl
          have hbs : (bytesRow t (grownCap w t.size 0 el)).size = grownCap w t.size 0 el := by
            have := grown_le w t.size 0 el
            simp only [bytesRow, Array.size_append, Array.size_map, Array.size_replicate]
            have : t.data.size = t.size := rfl
            omega
          refine ⟨_, w.drew.alloc _, _, (bytesRow t (grownCap w t.size 0 el)).size, hrun, rfl, rfl, rfl, rfl, rfl, ?_⟩
          intro j b hij hb
          refine ⟨?_, ?_⟩
          · simp only [VRel]
            refine ⟨_, grownCap w t.size 0 el, hb, by rw [hlen], ?_⟩
            simp only [capOk]
            refine ⟨by rw [hlen]; exact grown_le _ _ _ _, ?_⟩
            rw [hbs]; omega
          · refine ⟨_, el, _, _, rfl, rfl, ?_, ?_, ?_⟩
            · rw [hbs, List.length_map, hlen]; exact grown_le _ _ _ _
            · rw [List.length_map, hlen]
              simp only [bytesRow, Array.toList_append, Array.toList_map]
              rw [List.take_append_of_le_length (by rw [List.length_map, Array.length_toList]; exact Nat.le_refl _), List.take_of_length_le (by rw [List.length_map, Array.length_toList]; exact Nat.le_refl _)]
              rw [← hst]
              have : ∀ l : List UInt8, VRels j ((l.map UInt8.toNat).map fun n => AV.int .u8 (.ofNat n)) (l.map fun b => Value.int .u8 b.toNat) := by
                intro l
                induction l with
                | nil => simp [VRels]
                | cons x l ih => simp only [List.map_cons, VRels, VRel]; exact ⟨rfl, ih⟩
              exact this _
            · exact .inr (Nat.le_refl _)
        · cases h
      · cases h
    · have := is_asVal (convAV (C.und dst) (opd e x)); rw [h] at this; simp [OpR.is, OpR.tag] at this
    · cases h
  case call c =>
    exfalso
    obtain ⟨callee, args, argTypes⟩ := c
    cases callee with
    | value f => simp [kindOf] at hk
    | invoke r m => simp [kindOf] at hk
    | builtin b => cases b <;> simp [kindOf] at hk
  all_goals
    first
      | (cases h; done)
      | (exfalso; simp [kindOf] at hk; done)

end
end
end Go.Ev
namespace Go.Ev

theorem setCell_heap (w : World) (b o : Nat) (v : Value) (k : Nat) : (w.setCell ⟨b, o, none⟩ v).heap[k]? =
    if k = b then (w.heap[k]?).map (fun | .cells c el fz => .cells (c.setIfInBounds o v) el fz | x => x) else w.heap[k]? := by
  unfold World.setCell
  simp only [Array.getElem?_modify]
  by_cases h : b = k
  · rw [if_pos h, if_pos h.symm]
    cases w.heap[k]? with
    | none => rfl
    | some x => cases x <;> rfl
  · rw [if_neg h, if_neg (fun e => h e.symm)]

theorem setCells_rest : ∀ (vs : List Value) (w : World) (b o : Nat), (w.setCells b o vs).os = w.os ∧ (w.setCells b o vs).output = w.output ∧ (w.setCells b o vs).tape = w.tape
  | [], _, _, _ => ⟨rfl, rfl, rfl⟩
  | v :: vs, w, b, o => setCells_rest vs (w.setCell ⟨b, o, none⟩ v) b (o + 1)
theorem setCells_other : ∀ (vs : List Value) (w : World) (b o k : Nat), k ≠ b → (w.setCells b o vs).heap[k]? = w.heap[k]?
  | [], _, _, _, _, _ => rfl
  | v :: vs, w, b, o, k, h => by
    rw [World.setCells, setCells_other vs _ b (o + 1) k h, setCell_heap, if_neg h]
theorem setCells_same : ∀ (vs : List Value) (w : World) (b o : Nat) (arr : Array Value) (el : TypeId) (fz : Nat × Nat), w.heap[b]? = some (.cells arr el fz) → o + vs.length ≤ arr.size →
    (w.setCells b o vs).heap[b]? = some (.cells (arr.toList.take o ++ vs ++ arr.toList.drop (o + vs.length)).toArray el fz)
  | [], w, b, o, arr, el, fz, h, _ => by simp [World.setCells, h]
  | v :: vs, w, b, o, arr, el, fz, h, hl => by
    simp only [List.length_cons] at hl
    have h' : (w.setCell ⟨b, o, none⟩ v).heap[b]? = some (.cells (arr.setIfInBounds o v) el fz) := by rw [setCell_heap, if_pos rfl, h]; rfl
    rw [World.setCells, setCells_same vs _ b (o + 1) _ el fz h' (by simp; omega)]
    congr 3
    simp only [Array.toList_setIfInBounds, List.length_cons]
    have e1 : (arr.toList.set o v).take (o + 1) = arr.toList.take o ++ [v] := by
      rw [List.take_add_one]
      simp [List.take_set_of_le, show o < arr.size by omega]
    have e2 : (arr.toList.set o v).drop (o + 1 + vs.length) = arr.toList.drop (o + (vs.length + 1)) := by
      rw [List.drop_set_of_lt (by omega)]
      congr 1; omega
    rw [e1, e2]
    simp

theorem allOne_mem {i : Emb} : ∀ {l : List AV} {xs : List Value}, VRels i l xs → allOne l = true → ∀ x ∈ xs, x.oneCell' = true
  | [], [], _, _ => by simp
  | v :: l, x :: xs, g, h => by
    simp only [VRels] at g
    simp only [allOne] at h
    cases hv : v.one with
    | false => simp [hv] at h
    | true =>
      simp only [hv, cond_true] at h
      intro y hy
      rcases List.mem_cons.1 hy with rfl | hy
      · exact g.1.oneCell hv
      · exact allOne_mem g.2 h y hy
  | [], _ :: _, g, _ => by simp [VRels] at g
  | _ :: _, [], g, _ => by simp [VRels] at g

section
variable {S : String → Code → Prop} {F : Fr} {i : Emb} {G : Nat → Option AObj} {n : Nat} {w : World}

theorem storeCells_ok {P : Program} (R : Rel S F i G n w) {b o : Nat} {cs cs' new : List AV} {vals : List Value} {c : Nat × Nat} (hb : G b = some (.cells cs)) (hc : i b = some c)
    (hn : VRels i new vals) (h1 : allOne new = true) (hs : splice cs o new = some cs') :
    (storeCells ⟨c.1, o, none⟩ vals).run P w = .ok () (w.setCells c.1 o vals) ∧ Rel S F i (updG G b (.cells cs')) n (w.setCells c.1 o vals) := by
  obtain ⟨c', hc', arr, el, lo, hi, hw, hsz, hle, hv, hfz⟩ := R.objs b _ hb rfl
  rw [hc] at hc'; cases hc'
  have hlen := hn.length
  obtain ⟨g1, g2, g3⟩ := splice_ok hs hv hn
  have hcell : ∀ j, j < vals.length → (w.cell? ⟨c.1, o + j, none⟩).isSome = true := by
    intro j hj
    rw [cell_at hw]
    simp; omega
  have hfrz : ∀ j, j < vals.length → w.frozen? ⟨c.1, o + j, none⟩ = false := by
    intro j hj
    simp only [World.frozen?, hw]
    have : ¬ (lo ≤ o + j ∧ o + j < hi) := by rcases hfz with e | e <;> omega
    simpa using this
  have hrun := run_storeCells_cells (P := P) c.1 o vals 0 w (by simpa using hcell) (by simpa using hfrz) (allOne_mem hn h1)
  simp only [Nat.add_zero] at hrun
  refine ⟨hrun, ?_⟩
  obtain ⟨r1, r2, r3⟩ := setCells_rest vals w c.1 o
  have hsame := setCells_same vals w c.1 o arr el (lo, hi) hw (by omega)
  refine R.write hb rfl hc rfl ?_ (fun k hk => setCells_other vals w c.1 o k hk) r1 r2 r3
  rw [hsame]
  refine ⟨_, el, lo, hi, rfl, ?_, by omega, ?_, hfz⟩
  · simp; omega
  · rw [List.toList_toArray, g3]
    have e : (arr.toList.take o ++ vals ++ arr.toList.drop (o + vals.length)).take cs.length = (arr.toList.take cs.length).take o ++ vals ++ (arr.toList.take cs.length).drop (o + vals.length) := by
      rw [List.take_take, List.drop_take, Nat.min_eq_left (by omega)]
      rw [List.append_assoc, List.take_append, List.take_append]
      simp only [List.length_take, Array.length_toList, List.take_take]
      rw [Nat.min_eq_left (show o ≤ arr.size by omega), Nat.min_eq_right (show o ≤ cs.length by omega), List.take_of_length_le (show vals.length ≤ cs.length - o by omega), List.append_assoc]
      congr 2
      congr 1
      omega
    rw [e]
    exact g1

/-- A store. -/
theorem storeAV_ok {P : Program} {h h' : Heap} (R : Rel S F i h.get h.next w) {b o : Nat} {new : List AV} {vals : List Value} {c : Nat × Nat} (hc : i b = some c)
    (hn : VRels i new vals) (hs : storeAV h b o new = some h') :
    ∃ w', (storeCells ⟨c.1, o, none⟩ vals).run P w = .ok () w' ∧ Rel S F i h'.get h'.next w' ∧ w' = w.setCells c.1 o vals := by
  unfold storeAV at hs
  split at hs
  · rename_i cs hb
    cases h1 : allOne new with
    | false => simp [h1] at hs
    | true =>
      simp only [h1, cond_true] at hs
      split at hs
      · rename_i cs' hcs
        simp only [Option.some.injEq] at hs; subst hs
        obtain ⟨g1, g2⟩ := storeCells_ok (P := P) R hb hc hn h1 hcs
        exact ⟨_, g1, by rw [Heap.get_set']; exact g2, rfl⟩
      · exact absurd hs (by simp)
  · exact absurd hs (by simp)

end
end Go.Ev
