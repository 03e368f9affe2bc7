/-
  EvWrB: operations that write, more. No condition.
-/
import Derived.Test.YtmmaneofdfbllaaGreatEvWr
set_option linter.unusedVariables false
set_option linter.unusedSimpArgs false
set_option linter.unusedSectionVars false
namespace Go.Ev

section
variable {S : String → Code → Prop} {F : Fr} {i : Emb} {h : Heap} {w : World} {C : Ctx}

/-- There is room: the cells are stored. -/
theorem run_append_room' {P : Program} (t tx ty e : TypeId) (inf : TypeInfo) (ht : P.underlying t = some (.slice e)) (hi : P.info? e = some inf) (b off sLen sCap : Nat) (x : Value) (n : Nat) (news : List Value) (hs : Src P inf.size tx x n news w)
    (hroom : sLen + n ≤ sCap) {w' : World} (hst : (storeCells ⟨b, off + sLen * inf.size, none⟩ news).run P w = .ok () w') :
    (Builtin.append_ #[t, tx] ty #[.slice (some ⟨b, off, none⟩) sLen sCap, x]).run P w = .ok (.slice (some ⟨b, off, none⟩) (sLen + n) sCap) w' := by
  rcases hs.kind with ⟨e', hk⟩ | hk <;> simp [Builtin.append_, run_underlying ht, run_underlying hk, sizeOf, typeInfo, hi, hs.len, hroom, hs.cells, Addr.add_lit, hst]

theorem size_zeroCells (z : Array Value) (n : Nat) : (Builtin.zeroCells z n).size = n * z.size := by simp [Builtin.zeroCells]

theorem append_ok (hC : C.Tab) (R : Rel S F i h.get h.next w) {t tx ty el : TypeId} {s x v : AV} {sv y : Value} {h' : Heap} {size bytes : Nat} {z : List AV} (ht : C.und t = some (.slice el))
    (hk : (∃ e', C.P.underlying tx = some (.slice e')) ∨ C.P.underlying tx = some .string) (hsz : C.size el = some size) (hby : C.bytes el = some bytes) (hz : zeros C el = some z) (hzl : z.length = size)
    (gs : VRel i s sv) (gx : VRel i x y) (ha : appendAV h size bytes s x = some (v, h')) : WrOk S F i w C.P (Builtin.append_ #[t, tx] ty #[sv, y]) v h' := by
  have hu := und_ok hC ht
  obtain ⟨inf, hi, rfl⟩ := size_ok hC hsz
  obtain ⟨inf2, hi2, rfl⟩ := bytes_ok hC hby
  rw [hi] at hi2; cases hi2
  obtain ⟨inf3, zv, hi3, hzz, gz⟩ := zeros_ok hC hz
  rw [hi] at hi3; cases hi3
  have hzs : zv.cells.size = inf.size := by have := (gz i).length; simp at this; omega
  unfold appendAV at ha
  split at ha
  · exact absurd ha (by simp)
  rename_i n hn
  split at ha
  · exact absurd ha (by simp)
  rename_i new hnew
  cases h1 : allOne new with
  | false => simp [h1] at ha
  | true =>
  simp only [h1, Bool.not_true, cond_false] at ha
  obtain ⟨news, gn, hs⟩ := src_ok R.objs (P := C.P) hk gx hn hnew h1
  have hfresh := R.fresh h.next (Nat.le_refl _)
  have hnl := hs.newsLen
  -- a new row
  have grow : ∀ (base : Option Addr) (sLen sCap : Nat) (old : List AV) (olds : List Value), sv = .slice base sLen sCap → VRels i old olds → olds.length = sLen * inf.size →
      (Builtin.firstCells inf.size sLen (.slice base sLen sCap)).run C.P w.drew = .ok olds.toArray w.drew → sCap < sLen + n → (sLen + n) * inf.bytes ≤ 17592186044416 → sLen + n ≤ 17592186044416 →
      ∃ (w' : World) (j : Emb) (cp : Nat), (Builtin.append_ #[t, tx] ty #[sv, y]).run C.P w = .ok (.slice (some ⟨w.heap.size, 0, none⟩) (sLen + n) cp) w' ∧ i.Le j ∧
        VRel j (.sl h.next 0 (sLen + n) (.rest inf.size)) (.slice (some ⟨w.heap.size, 0, none⟩) (sLen + n) cp) ∧ Rel S F j (updG h.get h.next (.cells (old ++ new))) (h.next + 1) w' := by
    intro base sLen sCap old olds hsv go hol hold hg h2 h3
    subst hsv
    have hcap := Room.nextslicecap_le' hg
    have hm : Builtin.nextslicecap (sLen + n) sCap * inf.bytes ≤ 2 * (sLen + n) * inf.bytes := Nat.mul_le_mul_right _ hcap
    have hrun := run_append_grow_src (P := C.P) w t tx ty el inf zv hu hi hzz base sLen sCap olds hold y n news hs hg (by omega) (by rw [Nat.mul_assoc] at hm; omega)
    have gle := grown_le w (sLen + n) sCap el
    have hsum : (olds ++ news).length = (sLen + n) * inf.size := by rw [List.length_append, hol, hnl, Nat.add_mul]
    have hsize : ((olds ++ news).toArray ++ Builtin.zeroCells zv.cells (grownCap w (sLen + n) sCap el - (sLen + n))).size = grownCap w (sLen + n) sCap el * inf.size := by
      rw [Array.size_append, size_zeroCells, hzs, List.size_toArray, hsum, ← Nat.add_mul]
      congr 1; omega
    have gon := go.append gn
    have hlen : (old ++ new).length = (sLen + n) * inf.size := by rw [gon.length, hsum]
    refine ⟨_, i.upd h.next (w.heap.size, grownCap w (sLen + n) sCap el * inf.size), _, hrun, Emb.le_upd hfresh.1 _, ?_, ?_⟩
    · simp only [VRel]
      exact ⟨_, _, Emb.upd_same _ _ _, rfl, gle, by simp⟩
    · refine R.add hfresh.1 hfresh.2 (Nat.lt_succ_self _) (Nat.le_succ _) rfl rfl rfl rfl rfl ?_
      have hr : VRels (i.upd h.next (w.heap.size, grownCap w (sLen + n) sCap el * inf.size)) (old ++ new) (((olds ++ news).toArray ++ Builtin.zeroCells zv.cells (grownCap w (sLen + n) sCap el - (sLen + n))).toList.take (old ++ new).length) := by
        rw [Array.toList_append, List.take_append_of_le_length (by simp only [List.toList_toArray]; omega), List.take_of_length_le (by simp only [List.toList_toArray]; omega)]
        exact VRels.mono (Emb.le_upd hfresh.1 _) _ _ gon
      refine ⟨_, el, 0, 0, rfl, hsize, ?_, hr, .inl rfl⟩
      rw [hlen]
      exact Nat.mul_le_mul_right _ gle
  split at ha
  · -- nil
    simp only [VRel] at gs
    subst gs
    rw [cond_beq] at ha
    split at ha
    · rename_i h0; subst h0
      simp only [Option.some.injEq, Prod.mk.injEq] at ha
      obtain ⟨rfl, rfl⟩ := ha
      obtain rfl : news = [] := List.eq_nil_of_length_eq_zero (by simpa using hnl)
      exact ⟨_, w, i, run_append_nothing (P := C.P) w t tx ty el inf hu hi none 0 0 (Nat.le_refl _) y hs, Emb.Le.refl _, by simp only [VRel], R⟩
    · rename_i h0
      simp only [ble_nat, blt_nat] at ha
      by_cases hc : (n * inf.bytes ≤ 17592186044416 ∧ n ≤ 17592186044416) ∧ 0 < inf.size
      · obtain ⟨⟨c1, c2⟩, c3⟩ := hc
        simp only [c1, c2, c3, decide_true, Bool.and_true, cond_true, Option.some.injEq, Prod.mk.injEq] at ha
        obtain ⟨rfl, rfl⟩ := ha
        obtain ⟨w', j, cp, hr, hj, gv, R'⟩ := grow none 0 0 [] [] rfl (by simp [VRels]) (by simp) (run_firstCells_none w.drew inf.size 0 0 0) (by omega) (by simpa using c1) (by simpa using c2)
        simp only [Nat.zero_add, List.nil_append] at hr gv R'
        exact ⟨_, w', j, hr, hj, gv, by rw [Heap.get_add']; exact R'⟩
      · have : (decide (n * inf.bytes ≤ 17592186044416) && decide (n ≤ 17592186044416) && decide (0 < inf.size)) = false := by
          rw [Bool.eq_false_iff]; intro hh; apply hc; simpa using hh
        rw [this] at ha
        exact absurd ha (by simp)
  · -- an empty one
    simp only [VRel] at gs
    obtain ⟨a, m, rfl⟩ := gs
    rw [cond_beq] at ha
    split at ha
    · rename_i h0; subst h0
      simp only [Option.some.injEq, Prod.mk.injEq] at ha
      obtain ⟨rfl, rfl⟩ := ha
      obtain rfl : news = [] := List.eq_nil_of_length_eq_zero (by simpa using hnl)
      exact ⟨_, w, i, run_append_nothing (P := C.P) w t tx ty el inf hu hi (some a) 0 m (Nat.zero_le _) y hs, Emb.Le.refl _, by simp only [VRel]; exact ⟨a, m, rfl⟩, R⟩
    · exact absurd ha (by simp)
  · rename_i b o len cap
    have gs' := gs
    simp only [VRel] at gs
    obtain ⟨c, m, hcb, rfl, hcap⟩ := gs
    have hlm : len ≤ m := by cases cap <;> simp only [capOk] at hcap <;> omega
    rw [cond_beq] at ha
    split at ha
    · rename_i h0; subst h0
      simp only [Option.some.injEq, Prod.mk.injEq] at ha
      obtain ⟨rfl, rfl⟩ := ha
      obtain rfl : news = [] := List.eq_nil_of_length_eq_zero (by simpa using hnl)
      exact ⟨_, w, i, run_append_nothing (P := C.P) w t tx ty el inf hu hi (some ⟨c.1, o, none⟩) len m hlm y hs, Emb.Le.refl _, gs', R⟩
    rename_i h0
    simp only [ble_nat, blt_nat] at ha
    by_cases hc : ((len + n) * inf.bytes ≤ 17592186044416 ∧ len + n ≤ 17592186044416) ∧ 0 < inf.size
    rotate_left
    · have : (decide ((len + n) * inf.bytes ≤ 17592186044416) && decide (len + n ≤ 17592186044416) && decide (0 < inf.size)) = false := by
        rw [Bool.eq_false_iff]; intro hh; apply hc; simpa using hh
      rw [this] at ha
      exact absurd ha (by simp)
    obtain ⟨⟨c1, c2⟩, c3⟩ := hc
    simp only [c1, c2, c3, decide_true, Bool.and_true, Bool.not_true, cond_false] at ha
    split at ha
    rotate_left
    · exact absurd ha (by simp)
    rename_i ob hb
    split at ha
    rotate_left
    · exact absurd ha (by simp)
    rename_i cs hr
    split at ha
    rotate_left
    · exact absurd ha (by simp)
    rename_i old hcut
    obtain ⟨c', arr, el', fz, hc', hw, hasz, hle, hv⟩ := R.objs.row hb hr
    rw [hcb] at hc'; cases hc'
    obtain ⟨g1, g2, g3⟩ := cut_ok hcut hv
    have holdl : (((arr.toList.take cs.length).drop o).take (len * inf.size)).length = len * inf.size := by rw [← g1.length]; exact g3
    have hold : (Builtin.firstCells inf.size len (.slice (some ⟨c.1, o, none⟩) len m)).run C.P w.drew = .ok (((arr.toList.take cs.length).drop o).take (len * inf.size)).toArray w.drew := by
      have hcells : ∀ j v, (((arr.toList.take cs.length).drop o).take (len * inf.size))[j]? = some v → w.cell? ((⟨c.1, o, none⟩ : Addr).add j) = some v := by
        intro j v hj
        have hjn : j < len * inf.size := by
          have := (List.getElem?_eq_some_iff.1 hj).1; omega
        rw [Addr.add_mid, cell_at hw]
        rw [List.getElem?_take_of_lt hjn, List.getElem?_drop] at hj
        have hlt : o + j < cs.length := by
          have := (List.getElem?_eq_some_iff.1 hj).1
          simp at this; omega
        rw [List.getElem?_take_of_lt hlt] at hj
        simpa using hj
      exact run_firstCells_some w.drew inf.size len _ _ _ _ holdl (by simpa using hcells)
    split at ha
    · -- the capacity is known
      rename_i cc
      simp only [capOk] at hcap
      obtain ⟨rfl, hcap⟩ := hcap
      by_cases hroom : len + n ≤ m
      · simp only [hroom, decide_true, cond_true] at ha
        split at ha
        · rename_i h2 hst
          simp only [Option.some.injEq, Prod.mk.injEq] at ha
          obtain ⟨rfl, rfl⟩ := ha
          obtain ⟨w', r1, r2, _⟩ := storeAV_ok (P := C.P) R hcb gn hst
          refine ⟨_, w', i, run_append_room' (P := C.P) t tx ty el inf hu hi c.1 o len m y n news hs hroom r1, Emb.Le.refl _, ?_, r2⟩
          simp only [VRel]
          exact ⟨c, m, hcb, rfl, rfl, hroom⟩
        · exact absurd ha (by simp)
      · simp only [hroom, decide_false, cond_false, Option.some.injEq, Prod.mk.injEq] at ha
        obtain ⟨rfl, rfl⟩ := ha
        obtain ⟨w', j, cp, hr', hj, gv, R'⟩ := grow (some ⟨c.1, o, none⟩) len m old _ rfl g1 holdl hold (by omega) c1 c2
        exact ⟨_, w', j, hr', hj, gv, by rw [Heap.get_add']; exact R'⟩
    · -- it is not
      rename_i sz
      simp only [capOk] at hcap
      obtain ⟨_, hcap⟩ := hcap
      split at ha
      rotate_left
      · exact absurd ha (by simp)
      rename_i ob cs0
      simp only [rowOf, Option.some.injEq] at hr; subst hr
      simp only [beq_nat] at ha
      by_cases hc2 : o = 0 ∧ sz = inf.size
      rotate_left
      · have : (decide (o = 0) && decide (sz = inf.size)) = false := by
          rw [Bool.eq_false_iff]; intro hh; apply hc2; simpa using hh
        rw [this] at ha
        exact absurd ha (by simp)
      obtain ⟨rfl, rfl⟩ := hc2
      simp only [decide_true, Bool.and_true, cond_true, Option.some.injEq, Prod.mk.injEq] at ha
      obtain ⟨rfl, rfl⟩ := ha
      have hget : ((h.set b .dead).add (.cells (old ++ new))).get = updG (updG h.get b .dead) h.next (.cells (old ++ new)) := by
        rw [Heap.get_add', Heap.get_set']; rfl
      by_cases hroom : len + n ≤ m
      · -- there is room
        obtain ⟨c', hc', arr', el'', lo, hi', hw', hasz', hle', hv', hfz⟩ := R.objs b _ hb rfl
        rw [hcb] at hc'; cases hc'
        rw [hw] at hw'
        simp only [Option.some.injEq, Obj.cells.injEq] at hw'
        obtain ⟨rfl, rfl, rfl⟩ := hw'
        have hmul : (len + n) * inf.size ≤ m * inf.size := Nat.mul_le_mul_right _ hroom
        rw [Nat.add_mul] at hmul
        have hcell : ∀ j, j < news.length → (w.cell? ⟨c.1, 0 + len * inf.size + j, none⟩).isSome = true := by
          intro j hj
          rw [cell_at hw]
          simp; omega
        have hfrz : ∀ j, j < news.length → w.frozen? ⟨c.1, 0 + len * inf.size + j, none⟩ = false := by
          intro j hj
          simp only [World.frozen?, hw]
          have : ¬ (lo ≤ 0 + len * inf.size + j ∧ 0 + len * inf.size + j < hi') := by rcases hfz with e | e <;> omega
          simpa using this
        have hrun := run_storeCells_cells (P := C.P) c.1 (0 + len * inf.size) news 0 w (by simpa using hcell) (by simpa using hfrz) (allOne_mem gn h1)
        simp only [Nat.add_zero] at hrun
        obtain ⟨r1, r2, r3⟩ := setCells_rest news w c.1 (0 + len * inf.size)
        have hsame := setCells_same news w c.1 (0 + len * inf.size) arr el' (lo, hi') hw (by omega)
        -- the row's new face
        have hlen : (old ++ new).length = len * inf.size + news.length := by rw [List.length_append, g3, gn.length]
        have g1' : VRels i old (arr.toList.take (len * inf.size)) := by
          have e : ((arr.toList.take cs0.length).drop 0).take (len * inf.size) = arr.toList.take (len * inf.size) := by
            rw [List.drop_zero, List.take_take, Nat.min_eq_left]
            have q : arr.toList.length = arr.size := Array.length_toList
            rw [List.length_take] at g2; omega
          rw [e] at g1; exact g1
        have hrow : RowRel i c.2 (old ++ new) (w.setCells c.1 (0 + len * inf.size) news).heap[c.1]? := by
          rw [hsame]
          refine ⟨_, el', lo, hi', rfl, ?_, by omega, ?_, hfz⟩
          · simp; omega
          · simp only [List.toList_toArray, Nat.zero_add]
            have q : arr.toList.length = arr.size := Array.length_toList
            have q2 : (arr.toList.take (len * inf.size) ++ news).length = (old ++ new).length := by rw [List.length_append, List.length_take, hlen]; omega
            rw [List.take_append_of_le_length (by rw [q2]; exact Nat.le_refl _), List.take_of_length_le (by rw [q2]; exact Nat.le_refl _)]
            exact g1'.append gn
        have R2 := R.write (w' := w.setCells c.1 (0 + len * inf.size) news) hb rfl hcb (ob := .cells (old ++ new)) rfl hrow (fun k hk => setCells_other news w c.1 _ k hk) r1 r2 r3
        have hne : h.next ≠ b := by intro e; rw [← e, hfresh.2] at hb; cases hb
        have R3 := R2.alias (b := b) (d := h.next) (m := h.next + 1) (o := .cells (old ++ new)) (ob := .cells (old ++ new)) (c := c) (by simp [updG]) rfl hcb hfresh.1 (by rw [updG, if_neg hne]; exact hfresh.2) (Nat.lt_succ_self _) (Nat.le_succ _) rfl
          (ORel.mono (a := .cells (old ++ new)) (Emb.le_upd hfresh.1 _) hrow)
        have e : updG (updG (updG h.get b (.cells (old ++ new))) b .dead) h.next (.cells (old ++ new)) = updG (updG h.get b .dead) h.next (.cells (old ++ new)) := by
          funext k; unfold updG; split
          · rfl
          · split <;> rfl
        rw [e] at R3
        refine ⟨_, _, _, run_append_room' (P := C.P) t tx ty el inf hu hi c.1 0 len m y n news hs hroom hrun, Emb.le_upd hfresh.1 _, ?_, by rw [hget]; exact R3⟩
        simp only [VRel]
        exact ⟨c, m, Emb.upd_same _ _ _, rfl, hroom, hcap⟩
      · obtain ⟨w', j, cp, hr', hj, gv, R'⟩ := grow (some ⟨c.1, 0, none⟩) len m old _ rfl g1 holdl hold (by omega) c1 c2
        refine ⟨_, w', j, hr', hj, gv, ?_⟩
        rw [hget]
        have hne : h.next ≠ b := by intro e; rw [← e, hfresh.2] at hb; cases hb
        have R2 := R'.kill (b := b) (o := .cells cs0) (by rw [updG, if_neg (Ne.symm hne)]; exact hb)
        have e : updG (updG h.get h.next (.cells (old ++ new))) b .dead = updG (updG h.get b .dead) h.next (.cells (old ++ new)) := by
          funext k; unfold updG
          by_cases k1 : k = b <;> by_cases k2 : k = h.next
          · exact absurd (k2.symm.trans k1) hne
          · simp [k1, Ne.symm hne]
          · simp [k2, hne]
          · simp [k1, k2]
        rw [e] at R2
        exact R2
  · exact absurd ha (by simp)

end
end Go.Ev
namespace Go.Ev

section
variable {S : String → Code → Prop} {F : Fr} {i : Emb} {h : Heap} {w : World} {C : Ctx}

theorem firstCells_zero {P : Program} {size : Nat} {x : AV} {y : Value} {m : Nat} (gx : VRel i x y) (hl : srcLen x = some m) : (Builtin.firstCells size 0 y).run P w = .ok #[] w := by
  cases x <;> simp only [srcLen, Option.some.injEq] at hl <;> try (cases hl; done)
  all_goals simp only [VRel] at gx
  · obtain ⟨t, rfl, hs⟩ := gx
    simp [Builtin.firstCells]
  · subst gx; exact run_firstCells_none w size 0 0 0
  · obtain ⟨c, m, _, rfl, _⟩ := gx; exact run_firstCells_some w size 0 _ _ _ [] (by simp) (by simp)
  · obtain ⟨a, m, rfl⟩ := gx; exact run_firstCells_some w size 0 _ _ _ [] (by simp) (by simp)

theorem copy_ok (hC : C.Tab) (R : Rel S F i h.get h.next w) {t ty el : TypeId} {ts : List TypeId} {d x v : AV} {dv y : Value} {rest : List Value} {h' : Heap} {size : Nat} (ht : C.und t = some (.slice el))
    (hsz : C.size el = some size) (gd : VRel i d dv) (gx : VRel i x y) (ha : copyAV h size x d = some (v, h')) : WrOk S F i w C.P (Builtin.copy_ (t :: ts).toArray ty (dv :: y :: rest).toArray) v h' := by
  have hu := und_ok hC ht
  have hz := run_size hC w hsz
  have a1 : (t :: ts).toArray[0]? = some t := by simp
  have a2 : (dv :: y :: rest).toArray[0]? = some dv := by simp
  have a3 : (dv :: y :: rest).toArray[1]? = some y := by simp
  have fin0 : ∀ (base : Option Addr) (dl dc m : Nat), dv = .slice base dl dc → srcLen x = some m → Nat.min m dl = 0 → v = .int .i64 0 → h' = h →
      WrOk S F i w C.P (Builtin.copy_ (t :: ts).toArray ty (dv :: y :: rest).toArray) v h' := by
    intro base dl dc m e1 e2 e3 e4 e5
    subst e1 e4 e5
    refine ⟨goInt 0, w, i, ?_, Emb.Le.refl _, by simp [VRel, goInt], R⟩
    have hl := srcLen_ok gx e2 (P := C.P) w
    have hf := firstCells_zero (P := C.P) (size := size) (w := w) gx e2
    cases base <;> simp only [Builtin.copy_, a1, a2, a3, Sem.run_bind, run_underlying hu, Result.andThen_ok, hl, hz, e3, hf, Sem.run_pure, storeCells] <;> rfl
  unfold copyAV at ha
  split at ha
  · simp only [VRel] at gd
    split at ha
    · rename_i m hm
      simp only [Option.some.injEq, Prod.mk.injEq] at ha
      exact fin0 none 0 0 m gd hm (Nat.min_zero _) ha.1.symm ha.2.symm
    · exact absurd ha (by simp)
  · simp only [VRel] at gd
    obtain ⟨a, mm, gd⟩ := gd
    split at ha
    · rename_i m hm
      simp only [Option.some.injEq, Prod.mk.injEq] at ha
      exact fin0 (some a) 0 mm m gd hm (Nat.min_zero _) ha.1.symm ha.2.symm
    · exact absurd ha (by simp)
  · rename_i b o len cap
    simp only [VRel] at gd
    obtain ⟨c, mm, hcb, gd, _⟩ := gd
    split at ha
    · rename_i m hm
      simp only at ha
      split at ha
      · rename_i new hnew
        rw [cond_beq] at ha
        split at ha
        · rename_i h0
          simp only [Option.some.injEq, Prod.mk.injEq] at ha
          exact fin0 _ len mm m gd hm h0 ha.1.symm ha.2.symm
        · split at ha
          · rename_i h2 hst
            simp only [Option.some.injEq, Prod.mk.injEq] at ha
            obtain ⟨rfl, rfl⟩ := ha
            subst gd
            obtain ⟨news, gn, _, hf, _⟩ := cells_ok (P := C.P) R.objs gx hnew (fun k hk => by rw [hm] at hk; cases hk; exact Nat.min_le_left _ _)
            obtain ⟨w', r1, r2, _⟩ := storeAV_ok (P := C.P) R hcb gn hst
            have hl := srcLen_ok gx hm (P := C.P) w
            refine ⟨goInt (Nat.min m len), w', i, ?_, Emb.Le.refl _, by simp [VRel, goInt], r2⟩
            simp only [Builtin.copy_, a1, a2, a3, Sem.run_bind, run_underlying hu, Result.andThen_ok, hl, hz, hf, Sem.run_pure, r1]
          · exact absurd ha (by simp)
      · exact absurd ha (by simp)
    · exact absurd ha (by simp)
  · exact absurd ha (by simp)

theorem clear_ok (hC : C.Tab) (R : Rel S F i h.get h.next w) {t ty : TypeId} {ts : List TypeId} {d v : AV} {dv : Value} {l : List AV} {rest : List Value} {h' : Heap}
    (gd : VRel i d dv) (ha : clearR C h (C.und t) (some (d :: l)) = .wr v h') : WrOk S F i w C.P (Builtin.clear_ (t :: ts).toArray ty (dv :: rest).toArray) v h' := by
  have a1 : (t :: ts).toArray[0]? = some t := by simp
  have a2 : (dv :: rest).toArray[0]? = some dv := by simp
  have gt : VRel i (.tup []) (.tuple #[]) := by simp only [VRel]; exact ⟨[], by simp [VRels], rfl⟩
  unfold clearR at ha
  split at ha
  · rename_i D dd r hD e1
    simp only [Option.some.injEq, List.cons.injEq] at e1; obtain ⟨rfl, rfl⟩ := e1
    simp only [OpR.wr.injEq] at ha; obtain ⟨rfl, rfl⟩ := ha
    simp only [VRel] at gd; subst gd
    have hu := und_ok hC hD
    refine ⟨.tuple #[], w, i, ?_, Emb.Le.refl _, gt, R⟩
    simp only [Builtin.clear_, a1, a2, Sem.run_bind, run_underlying hu, Result.andThen_ok, Sem.run_pure]
  · rename_i D dd r hD e1
    simp only [Option.some.injEq, List.cons.injEq] at e1; obtain ⟨rfl, rfl⟩ := e1
    simp only [OpR.wr.injEq] at ha; obtain ⟨rfl, rfl⟩ := ha
    simp only [VRel] at gd; subst gd
    have hu := und_ok hC hD
    refine ⟨.tuple #[], w, i, ?_, Emb.Le.refl _, gt, R⟩
    simp only [Builtin.clear_, a1, a2, Sem.run_bind, run_underlying hu, Result.andThen_ok, Sem.run_pure]
  · rename_i D dd r hD e1
    simp only [Option.some.injEq, List.cons.injEq] at e1; obtain ⟨rfl, rfl⟩ := e1
    simp only [OpR.wr.injEq] at ha; obtain ⟨rfl, rfl⟩ := ha
    simp only [VRel] at gd; obtain ⟨a, m, rfl⟩ := gd
    have hu := und_ok hC hD
    refine ⟨.tuple #[], w, i, ?_, Emb.Le.refl _, gt, R⟩
    simp only [Builtin.clear_, a1, a2, Sem.run_bind, run_underlying hu, Result.andThen_ok, Sem.run_pure]
  · rename_i D b r hD e1
    simp only [Option.some.injEq, List.cons.injEq] at e1; obtain ⟨rfl, rfl⟩ := e1
    simp only [VRel] at gd; obtain ⟨c, hcb, rfl⟩ := gd
    have hu := und_ok hC hD
    split at ha
    · rename_i es clock hb
      simp only [OpR.wr.injEq] at ha; obtain ⟨rfl, rfl⟩ := ha
      obtain ⟨c', hc', ents, hw, _⟩ := R.objs b _ hb rfl
      rw [hcb] at hc'; cases hc'
      refine ⟨.tuple #[], setBlk w c.1 (.map #[] clock), i, ?_, Emb.Le.refl _, gt, ?_⟩
      · simp only [Builtin.clear_, a1, a2, Sem.run_bind, run_underlying hu, Result.andThen_ok, Sem.run_pure, run_getMap hw, run_setMap hw]
      · rw [Heap.get_set']
        exact R.setBlk hb rfl hcb rfl hw ⟨#[], rfl, by simp [plainEs, MRel], by simp, by simp [plainEs, keysApart], by simp [Stamps]⟩
    · rename_i es clock hb
      simp only [OpR.wr.injEq] at ha; obtain ⟨rfl, rfl⟩ := ha
      obtain ⟨c', hc', ents, l0, hw, _⟩ := R.objs b _ hb rfl
      rw [hcb] at hc'; cases hc'
      refine ⟨.tuple #[], setBlk w c.1 (.map #[] clock), i, ?_, Emb.Le.refl _, gt, ?_⟩
      · simp only [Builtin.clear_, a1, a2, Sem.run_bind, run_underlying hu, Result.andThen_ok, Sem.run_pure, run_getMap hw, run_setMap hw]
      · rw [Heap.get_set']
        exact R.setBlk hb rfl hcb rfl hw ⟨#[], [], rfl, List.Perm.refl _, by simp [MRel], by simp [keysApart], by simp [Stamps]⟩
    · cases ha
  · rename_i el b o n cp r hD e1
    simp only [Option.some.injEq, List.cons.injEq] at e1; obtain ⟨rfl, rfl⟩ := e1
    simp only [VRel] at gd; obtain ⟨c, m, hcb, rfl, _⟩ := gd
    have hu := und_ok hC hD
    rw [cond_beq] at ha
    split at ha
    · rename_i h0; subst h0
      simp only [OpR.wr.injEq] at ha; obtain ⟨rfl, rfl⟩ := ha
      refine ⟨.tuple #[], w, i, ?_, Emb.Le.refl _, gt, R⟩
      simp only [Builtin.clear_, a1, a2, Sem.run_bind, run_underlying hu, Result.andThen_ok, Sem.run_pure]
    · rename_i h0
      split at ha
      · rename_i z hz
        obtain ⟨inf, zv, g1, g2, g3⟩ := zeros_ok hC hz
        unfold wroteAV at ha
        split at ha
        · rename_i h2 hst
          simp only [OpR.wr.injEq] at ha; obtain ⟨rfl, rfl⟩ := ha
          have hrep := rep_ok (g3 i) n
          obtain ⟨w', r1, r2, _⟩ := storeAV_ok (P := C.P) R hcb hrep hst
          refine ⟨.tuple #[], w', i, ?_, Emb.Le.refl _, gt, r2⟩
          have hzr : (zeroValue el).run C.P w = .ok zv w := by simp [zeroValue, typeInfo, g1, g2]
          have r1' : (storeCells ⟨c.1, o, none⟩ (Builtin.zeroCells zv.cells n).toList).run C.P w = .ok () w' := r1
          cases n with
          | zero => exact absurd rfl h0
          | succ n => simp only [Builtin.clear_, a1, a2, Sem.run_bind, run_underlying hu, Result.andThen_ok, Sem.run_pure, hzr, r1']
        · cases ha
      · cases ha
  · cases ha

theorem delete_ok (hC : C.Tab) (R : Rel S F i h.get h.next w) {t ty : TypeId} {ts : List TypeId} {m k v : AV} {mv y : Value} {l : List AV} {rest : List Value} {h' : Heap}
    (gm : VRel i m mv) (gk : VRel i k y) (ha : deleteR C h (C.und t) (some (m :: k :: l)) = .wr v h') : WrOk S F i w C.P (Builtin.delete_ (t :: ts).toArray ty (mv :: y :: rest).toArray) v h' := by
  have a1 : (t :: ts).toArray[0]? = some t := by simp
  have a2 : (mv :: y :: rest).toArray[0]? = some mv := by simp
  have a3 : (mv :: y :: rest).toArray[1]? = some y := by simp
  have gt : VRel i (.tup []) (.tuple #[]) := by simp only [VRel]; exact ⟨[], by simp [VRels], rfl⟩
  unfold deleteR at ha
  split at ha
  · rename_i kt et m' k' r hD e1
    simp only [Option.some.injEq, List.cons.injEq] at e1; obtain ⟨rfl, rfl, rfl⟩ := e1
    have hu := und_ok hC hD
    cases hkk : keyKind C kt k with
    | false => simp [hkk] at ha
    | true =>
      simp only [hkk, cond_true] at ha
      split at ha
      · simp only [OpR.wr.injEq] at ha; obtain ⟨rfl, rfl⟩ := ha
        simp only [VRel] at gm; subst gm
        have hck : (Instr.checkKey true 10000 kt y).run C.P w = .ok () w := run_checkKey hC w gk hkk true 9999
        refine ⟨.tuple #[], w, i, ?_, Emb.Le.refl _, gt, R⟩
        simp only [Builtin.delete_, a1, a2, a3, Sem.run_bind, run_underlying hu, Result.andThen_ok, Sem.run_pure, hck]
      · rename_i b
        simp only [VRel] at gm; obtain ⟨c, hcb, rfl⟩ := gm
        unfold wroteAV at ha
        split at ha
        · rename_i h2 hp
          simp only [OpR.wr.injEq] at ha; obtain ⟨rfl, rfl⟩ := ha
          obtain ⟨w', r1, r2⟩ := mapDel_ok (ty := ty) (ts := ts) (rest := rest) hC R hD hcb hkk gk hp
          exact ⟨_, w', i, r1, Emb.Le.refl _, gt, r2⟩
        · cases ha
      · cases ha
  · cases ha

theorem store_ok (hC : C.Tab) (R : Rel S F i h.get h.next w) {t : TypeId} {x u : AV} {xv y : Value} {v : AV} {h' : Heap} (gx : VRel i x xv) (gu : VRel i u y) (hku : u ≠ .unk)
    (ha : storeR h (C.size t) (some x) (some u) = .wr v h') : ∃ w', (Instr.storeAt t xv y).run C.P w = .ok () w' ∧ v = .tup [] ∧ Rel S F i h'.get h'.next w' := by
  unfold storeR at ha
  split at ha
  · rename_i b o u' e1 e2
    simp only [Option.some.injEq] at e1 e2; subst e1 e2
    simp only [VRel] at gx; obtain ⟨c, hcb, rfl⟩ := gx
    split at ha
    · rename_i n hn
      rw [cond_beq] at ha
      split at ha
      · rename_i hln
        unfold wroteAV at ha
        split at ha
        · rename_i h2 hst
          simp only [OpR.wr.injEq] at ha; obtain ⟨rfl, rfl⟩ := ha
          have gc := gu.ofCells hku
          obtain ⟨w', r1, r2, _⟩ := storeAV_ok (P := C.P) R hcb gc hst
          have hsz := run_size hC w hn
          have hln' : y.cells.size = n := by have := gc.length; simp at this; omega
          refine ⟨w', ?_, rfl, r2⟩
          simp only [Instr.storeAt, Instr.sureAddr, storeVar, Sem.run_bind, Sem.run_pure, Result.andThen_ok, hsz, hln', ne_eq, not_true, if_false, r1]
        · cases ha
      · cases ha
    · cases ha
  · cases ha

/-- An operation that writes. -/
theorem wr_ok (hC : C.Tab) (R : Rel S F i h.get h.next w) {e : Env} {a : Act} (g : ERel i e a.tmps) {o : Oper} {s : Heap} {v : AV} {h' : Heap} (hv : opEval C e s h o.op = .wr v h') :
    ∃ (x : Value) (w' : World) (j : Emb), ((execOp a.eval o).run C.P w = .ok (.value x) w' ∨ (execOp a.eval o).run C.P w = .ok .skip w' ∧ x = undef) ∧ i.Le j ∧ VRel j v x ∧ Rel S F j h'.get h'.next w' := by
  obtain ⟨dst, op, type, pos, after, guard⟩ := o
  simp only at hv
  have hk := kind_wr hv
  have gt : VRel i (.tup []) undef := by simp only [VRel]; exact ⟨[], by simp [VRels], rfl⟩
  have wrap : ∀ (m : Sem Value), WrOk S F i w C.P m v h' → ∃ (x : Value) (w' : World) (j : Emb), (((do pure (.value (← m))) : Sem Next).run C.P w = .ok (.value x) w' ∨ ((do pure (.value (← m))) : Sem Next).run C.P w = .ok .skip w' ∧ x = undef) ∧ i.Le j ∧ VRel j v x ∧ Rel S F j h'.get h'.next w' := by
    rintro m ⟨x, w', j, hx, hj, hv, hR⟩
    exact ⟨x, w', j, .inl (by simp only [Sem.run_bind, hx, Result.andThen_ok, Sem.run_pure]), hj, hv, hR⟩
  have unit : ∀ (m : Sem Unit), (∃ w', m.run C.P w = .ok () w' ∧ v = .tup [] ∧ Rel S F i h'.get h'.next w') → ∃ (x : Value) (w' : World) (j : Emb), (((do m; pure .skip) : Sem Next).run C.P w = .ok (.value x) w' ∨ ((do m; pure .skip) : Sem Next).run C.P w = .ok .skip w' ∧ x = undef) ∧ i.Le j ∧ VRel j v x ∧ Rel S F j h'.get h'.next w' := by
    rintro m ⟨w', hx, rfl, hR⟩
    exact ⟨undef, w', i, .inr ⟨by simp only [Sem.run_bind, hx, Result.andThen_ok, Sem.run_pure], rfl⟩, Emb.Le.refl _, gt, hR⟩
  cases op <;> simp only [opEval] at hv <;> simp only [execOp]
  case store t x y =>
    cases hx : opd e x with
    | none => rw [hx] at hv; simp [storeR] at hv
    | some xa =>
      cases hy : opd e y with
      | none => rw [hy] at hv; unfold storeR at hv; split at hv <;> simp_all
      | some ya =>
        rw [hx, hy] at hv
        exact unit _ (store_ok hC R (opd_ok g hx) (opd_ok g hy) (opd_known hy) hv)
  case mapUpdate t m k x =>
    unfold updateR at hv
    split at hv
    · rename_i kt et hD
      split at hv
      · rename_i b kk u e1 e2 e3
        cases hkk : keyKind C kt kk with
        | false => simp [hkk] at hv
        | true =>
          simp only [hkk, cond_true] at hv
          unfold wroteAV at hv
          split at hv
          · rename_i h2 hp
            simp only [OpR.wr.injEq] at hv; obtain ⟨rfl, rfl⟩ := hv
            have gm := opd_ok g e1
            simp only [VRel] at gm
            obtain ⟨c, hc, em⟩ := gm
            rw [em]
            obtain ⟨w', r1, r2⟩ := mapPut_ok hC R hD hc hkk (opd_ok g e2) (opd_ok g e3) hp
            exact unit _ ⟨w', r1, rfl, r2⟩
          · cases hv
      · cases hv
    · cases hv
  case mapEntry t m k =>
    cases hm : opd e m with
    | none => rw [hm] at hv; unfold entryR at hv; split at hv <;> simp_all
    | some ma =>
      cases hkk : opd e k with
      | none => rw [hkk] at hv; unfold entryR at hv; split at hv <;> simp_all
      | some ka => rw [hm, hkk] at hv; exact wrap _ (entry_ok hC R (opd_ok g hm) (opd_ok g hkk) hv)
  case entryStore t m s' x =>
    cases hm : opd e m with
    | none => rw [hm] at hv; unfold entryStoreR at hv; split at hv <;> simp_all
    | some ma =>
      cases hs : opd e s' with
      | none => rw [hs] at hv; unfold entryStoreR at hv; split at hv <;> simp_all
      | some sa =>
        cases hx : opd e x with
        | none => rw [hx] at hv; unfold entryStoreR at hv; split at hv <;> simp_all
        | some xa => rw [hm, hs, hx] at hv; exact unit _ (entryStore_ok R (opd_ok g hm) (opd_ok g hs) (opd_ok g hx) hv)
  case range t x =>
    cases hx : opd e x with
    | none => rw [hx] at hv; unfold rangeR at hv; split at hv <;> simp_all
    | some xa => rw [hx] at hv; exact wrap _ (range_ok hC R (opd_ok g hx) hv)
  case convert src dst x =>
    unfold convertR at hv
    split at hv
    · have := is_asRd (textAV C s (by assumption) (opd e x)); simp_all [OpR.is, OpR.tag]
    · rename_i a' b' hs hd
      cases hx : opd e x with
      | none => rw [hx] at hv; simp [sameSliceR] at hv
      | some xa => rw [hx] at hv; exact wrap _ (sameSlice_ok hC R hs hd (opd_ok g hx) hv)
    · rename_i el _ _; have := is_bytesR C el (opd e x); rw [hv] at this; simp [OpR.is, OpR.tag] at this
    · have := is_asVal (convAV (C.und dst) (opd e x)); rw [hv] at this; simp [OpR.is, OpR.tag] at this
    · cases hv
  case call c =>
    obtain ⟨callee, args, argTypes⟩ := c
    cases callee with
    | value f => exfalso; simp [kindOf] at hk
    | invoke r m => exfalso; simp [kindOf] at hk
    | builtin b =>
      have e1 : args.map a.eval = (args.toList.map a.eval).toArray := amap _ _
      have fin : ∀ (m : Sem Value), ((resolve a.eval ⟨.builtin b, args, argTypes⟩ type).run C.P w).andThen (fun d w => (invoke d.target d.args).run C.P w) = ((do pure (.value (← m))) : Sem Next).run C.P w → WrOk S F i w C.P m v h' →
          ∃ (x : Value) (w' : World) (j : Emb), (((do let d ← resolve a.eval ⟨.builtin b, args, argTypes⟩ type; invoke d.target d.args) : Sem Next).run C.P w = .ok (.value x) w' ∨ ((do let d ← resolve a.eval ⟨.builtin b, args, argTypes⟩ type; invoke d.target d.args) : Sem Next).run C.P w = .ok .skip w' ∧ x = undef) ∧ i.Le j ∧ VRel j v x ∧ Rel S F j h'.get h'.next w' := by
        intro m hm hw
        obtain ⟨x, w', j, q1, q2, q3, q4⟩ := wrap m hw
        refine ⟨x, w', j, ?_, q2, q3, q4⟩
        rw [Sem.run_bind, hm]; exact q1
      cases b
      case append =>
        simp only [callR, builtinR] at hv
        split at hv
        · rename_i el ht
          unfold appendR at hv
          split at hv
          · rename_i sa xa hx
            have gl := opds_ok g hx
            obtain ⟨tl, htl⟩ : ∃ tl, argTypes.toList = tl := ⟨_, rfl⟩
            rw [htl] at hv ht
            have main : ∀ {size bytes : Nat} {z : List AV} {t tx : TypeId}, argTypes = #[t, tx] → C.und t = some (.slice el) → ((∃ e', C.P.underlying tx = some (.slice e')) ∨ C.P.underlying tx = some .string) → C.size el = some size → C.bytes el = some bytes → zeros C el = some z →
                (bif z.length.beq size then asWr (appendAV h size bytes sa xa) else OpR.bad) = .wr v h' → WrOk S F i w C.P (Builtin.append_ argTypes type (args.map a.eval)) v h' := by
              intro size bytes z t tx hat hut hk' hsz hby hz hw
              rw [cond_beq] at hw
              split at hw
              · rename_i hzl
                unfold asWr at hw
                split at hw
                · rename_i v2 h2 hap
                  simp only [OpR.wr.injEq] at hw; obtain ⟨rfl, rfl⟩ := hw
                  obtain ⟨ys, hys⟩ : ∃ ys, args.toList.map a.eval = ys := ⟨_, rfl⟩
                  rw [hys] at gl
                  rw [e1, hys, hat]
                  match ys, gl with
                  | [q1, q2], gl =>
                    simp only [VRels, and_true] at gl
                    exact append_ok hC R hut hk' hsz hby hz hzl gl.1 gl.2 hap
                  | [], gl => simp [VRels] at gl
                  | [_], gl => simp [VRels] at gl
                  | _ :: _ :: _ :: _, gl => simp [VRels] at gl
                · cases hw
              · cases hw
            match tl, htl, ht, hv with
            | [t, tx], htl, ht, hv =>
              have hat : argTypes = #[t, tx] := by rw [← Array.toArray_toList (xs := argTypes), htl]
              simp only [second, undOf] at hv
              refine fin (Builtin.append_ argTypes type (args.map a.eval)) ?_ ?_
              · simp only [resolve, Sem.run_bind, Sem.run_pure, Result.andThen_ok, invoke, builtin]
              · split at hv
                · rename_i hu2 hsz hby hz
                  exact main hat ht (.inl ⟨_, und_ok hC hu2⟩) hsz hby hz hv
                · rename_i hu2 hsz hby hz
                  exact main hat ht (.inr (und_ok hC hu2)) hsz hby hz hv
                · cases hv
            | [], htl, ht, hv => simp [typeArg] at ht
            | [_], htl, ht, hv => simp [second, undOf] at hv
            | _ :: _ :: _ :: _, htl, ht, hv => simp [second, undOf] at hv
          · cases hv
        · cases hv
      case copy =>
        simp only [callR, builtinR] at hv
        split at hv
        · rename_i el ht
          unfold copyR at hv
          split at hv
          · rename_i da xa r hx
            have gl := opds_ok g hx
            obtain ⟨tl, htl⟩ : ∃ tl, argTypes.toList = tl := ⟨_, rfl⟩
            rw [htl] at ht
            obtain ⟨ys, hys⟩ : ∃ ys, args.toList.map a.eval = ys := ⟨_, rfl⟩
            rw [hys] at gl
            split at hv
            · rename_i size hsz
              unfold asWr at hv
              split at hv
              · rename_i v2 h2 hcp
                simp only [OpR.wr.injEq] at hv; obtain ⟨rfl, rfl⟩ := hv
                refine fin (Builtin.copy_ argTypes type (args.map a.eval)) ?_ ?_
                · simp only [resolve, Sem.run_bind, Sem.run_pure, Result.andThen_ok, invoke, builtin]
                · have hat : argTypes = tl.toArray := by rw [← htl]
                  rw [e1, hys, hat]
                  match tl, ht, ys, gl with
                  | t :: ts, ht, q1 :: q2 :: qs, gl =>
                    simp only [VRels] at gl
                    exact copy_ok hC R ht hsz gl.1 gl.2.1 hcp
                  | [], ht, _, gl => simp [typeArg] at ht
                  | _, _, [], gl => simp [VRels] at gl
                  | _, _, [_], gl => simp [VRels] at gl
              · cases hv
            · cases hv
          · cases hv
        · cases hv
      case clear =>
        simp only [callR, builtinR] at hv
        obtain ⟨tl, htl⟩ : ∃ tl, argTypes.toList = tl := ⟨_, rfl⟩
        obtain ⟨ys, hys⟩ : ∃ ys, args.toList.map a.eval = ys := ⟨_, rfl⟩
        have hat : argTypes = tl.toArray := by rw [← htl]
        refine fin (Builtin.clear_ argTypes type (args.map a.eval)) ?_ ?_
        · simp only [resolve, Sem.run_bind, Sem.run_pure, Result.andThen_ok, invoke, builtin]
        · rw [e1, hys, hat]
          rw [htl] at hv
          match tl, hv with
          | [], hv => unfold typeArg clearR at hv; split at hv <;> simp_all
          | t :: ts, hv =>
            simp only [typeArg] at hv
            cases hx : opds e args.toList with
            | none => rw [hx] at hv; unfold clearR at hv; split at hv <;> simp_all
            | some l =>
              rw [hx] at hv
              have gl := opds_ok g hx
              rw [hys] at gl
              match l, hv, ys, gl with
              | [], hv, _, _ => unfold clearR at hv; split at hv <;> simp_all
              | d :: l, hv, q :: qs, gl =>
                simp only [VRels] at gl
                exact clear_ok hC R gl.1 hv
              | _ :: _, hv, [], gl => simp [VRels] at gl
      case delete =>
        simp only [callR, builtinR] at hv
        obtain ⟨tl, htl⟩ : ∃ tl, argTypes.toList = tl := ⟨_, rfl⟩
        obtain ⟨ys, hys⟩ : ∃ ys, args.toList.map a.eval = ys := ⟨_, rfl⟩
        have hat : argTypes = tl.toArray := by rw [← htl]
        refine fin (Builtin.delete_ argTypes type (args.map a.eval)) ?_ ?_
        · simp only [resolve, Sem.run_bind, Sem.run_pure, Result.andThen_ok, invoke, builtin]
        · rw [e1, hys, hat]
          rw [htl] at hv
          match tl, hv with
          | [], hv => unfold typeArg deleteR at hv; split at hv <;> simp_all
          | t :: ts, hv =>
            simp only [typeArg] at hv
            cases hx : opds e args.toList with
            | none => rw [hx] at hv; unfold deleteR at hv; split at hv <;> simp_all
            | some l =>
              rw [hx] at hv
              have gl := opds_ok g hx
              rw [hys] at gl
              match l, hv, ys, gl with
              | [], hv, _, _ => unfold deleteR at hv; split at hv <;> simp_all
              | [_], hv, _, _ => unfold deleteR at hv; split at hv <;> simp_all
              | m :: k :: l, hv, q :: q2 :: qs, gl =>
                simp only [VRels] at gl
                exact delete_ok hC R gl.1 gl.2.1 hv
              | _ :: _ :: _, hv, [], gl => simp [VRels] at gl
              | _ :: _ :: _, hv, [_], gl => simp [VRels] at gl
      all_goals
        first
          | (exfalso; simp only [callR, builtinR] at hv; cases hv; done)
          | (exfalso; simp [kindOf] at hk; done)
  all_goals
    first
      | (cases hv; done)
      | (exfalso; simp [kindOf] at hk; done)

end
end Go.Ev
