/-
  EvWr: operations that write. No condition.
-/
import Derived.Test.YtmmaneofdfbllaaGreatEvMap
import Derived.Deep.AppendSrc
import Derived.Deep.Upon
import Derived.Room.Entries
set_option linter.unusedVariables false
set_option linter.unusedSimpArgs false
set_option linter.unusedSectionVars false
namespace Go.Ev
noncomputable section

section
variable {S : String → Code → Prop} {F : Fr} {i : Emb} {h : Heap} {w : World} {C : Ctx}

/-- What is asked of an operation that writes. -/
def WrOk (S : String → Code → Prop) (F : Fr) (i : Emb) (w : World) (P : Program) (m : Sem Value) (v : AV) (h' : Heap) : Prop :=
  ∃ (x : Value) (w' : World) (j : Emb), m.run P w = .ok x w' ∧ i.Le j ∧ VRel j v x ∧ Rel S F j h'.get h'.next w'

theorem entry_ok (hC : C.Tab) (R : Rel S F i h.get h.next w) {t : TypeId} {m k v : AV} {x y : Value} {h' : Heap} (gm : VRel i m x) (gk : VRel i k y)
    (he : entryR C h (some m) (some k) (C.und t) = .wr v h') : WrOk S F i w C.P (Instr.mapEntry t x y) v h' := by
  unfold entryR at he
  split at he
  · rename_i kt el hd
    have hu := und_ok hC hd
    split at he
    · rename_i b k' e1 e2
      simp only [Option.some.injEq] at e1 e2; subst e1 e2
      simp only [VRel] at gm
      obtain ⟨c, hc, rfl⟩ := gm
      cases hkk : keyKind C kt k with
      | false => simp [hkk] at he
      | true =>
        simp only [hkk, cond_true] at he
        have hck : (Instr.checkKey false 10000 kt y).run C.P w = .ok () w := run_checkKey hC w gk hkk false 9999
        split at he
        · rename_i es clock hb
          obtain ⟨c', hc', ents, hw, hm, hbo, hap, hst⟩ := R.objs b _ hb rfl
          rw [hc] at hc'; cases hc'
          split at he
          · rename_i n u ts hf
            simp only [OpR.wr.injEq] at he
            obtain ⟨rfl, rfl⟩ := he
            obtain ⟨f1, f2⟩ := findKey_some hf
            obtain ⟨p1, p2⟩ := exact_put (v := u) f1
            have hpl : (plainEs es)[n]? = some (k, u) := by simp [plainEs, f1]
            rcases run_findKey hC w gk hkk hm f2 with ⟨e, _⟩ | ⟨n', v', z, e, hr, gz⟩
            · cases e
            · simp only [Option.some.injEq, Prod.mk.injEq] at e
              obtain ⟨rfl, rfl⟩ := e
              obtain ⟨e0, he0, ek0, ev0⟩ := hm.get n hpl
              have he0' : ents[n]? = some e0 := by simpa using he0
              have hborn : e0.born = ts := by
                have h1 : (ents.toList.map (·.born))[n]? = some e0.born := by simp [he0']
                rw [hbo] at h1
                simp [f1] at h1
                exact h1.symm
              obtain ⟨m1, m2⟩ := hm.modify hpl (fun e => { e with key := y }) (v := u) (fun e _ h2 => ⟨gk, h2, rfl⟩)
              refine ⟨.tuple #[z, goInt e0.born], setBlk w c.1 (.map (ents.modify n fun e => { e with key := y }) clock), i, ?_, Emb.Le.refl _, ?_, ?_⟩
              · simp only [Instr.mapEntry, Sem.run_bind, run_underlying hu, Result.andThen_ok, run_getMap hw, hck, hr, he0', Option.map_some, Option.getD_some, run_stays w hkk ek0 gk, run_setMap hw, Sem.run_pure]
              · simp only [VRel]
                exact ⟨[z, goInt e0.born], by simp [VRels, VRel, gz, goInt, hborn], rfl⟩
              · rw [Heap.get_set']
                refine R.setBlk hb rfl hc rfl hw ?_
                exact ⟨_, rfl, by rw [p1]; exact m1, by rw [m2, hbo, p2], by rw [p1]; exact keysApart_put hpl hap, stamps_same hst m2⟩
          · rename_i hf
            have f2 := findKey_none hf
            split at he
            · rename_i z hz
              simp only [OpR.wr.injEq] at he
              obtain ⟨rfl, rfl⟩ := he
              obtain ⟨zv, hzr, gz⟩ := run_zero hC w hz
              rcases run_findKey hC w gk hkk hm f2 with ⟨_, hr⟩ | ⟨n', v', z, e, _⟩
              · refine ⟨.tuple #[zv, goInt clock], setBlk w c.1 (.map (ents.push { key := y, val := zv, born := clock }) (clock + 1)), i, ?_, Emb.Le.refl _, ?_, ?_⟩
                · simp only [Instr.mapEntry, Sem.run_bind, run_underlying hu, Result.andThen_ok, run_getMap hw, hck, hr, hzr, run_setMap hw, Sem.run_pure]
                · simp only [VRel]
                  exact ⟨[zv, goInt clock], by simp [VRels, VRel, gz i, goInt], rfl⟩
                · rw [Heap.get_set']
                  refine R.setBlk hb rfl hc rfl hw ?_
                  have hpe : plainEs (es ++ [(k, z, clock)]) = plainEs es ++ [(k, z)] := by simp [plainEs]
                  refine ⟨_, rfl, ?_, ?_, ?_, stamps_push hst y zv⟩
                  · rw [ents_push_list, hpe]
                    exact hm.append (by simp only [MRel]; exact ⟨gk, gz i, trivial⟩)
                  · rw [ents_push_list]; simp [hbo]
                  · rw [hpe]
                    exact keysApart_push hap (findU_none f2)
              · cases e
            · cases he
          · cases he
        · cases he
    · cases he
  · cases he

theorem findStamp_ok {t : Nat} : ∀ {es : List (AV × AV × Nat)} {ents : List MapEntry} {j n : Nat} {k : AV}, ents.map (·.born) = es.map (·.2.2) → findStamp t es j = some (n, k) →
    ∃ m v, n = j + m ∧ es[m]? = some (k, v, t) ∧ ents.findIdx? (fun e => (e.born : Int) == (t : Int)) = some m
  | [], _, _, _, _, _, h => by simp [findStamp] at h
  | (a, v, u) :: es, [], _, _, _, hb, _ => by simp at hb
  | (a, v, u) :: es, e :: ents, j, n, k, hb, h => by
    simp only [List.map_cons, List.cons.injEq] at hb
    simp only [findStamp, cond_beq] at h
    split at h
    · rename_i hu
      simp only [Option.some.injEq, Prod.mk.injEq] at h
      obtain ⟨rfl, rfl⟩ := h
      refine ⟨0, v, rfl, by simp [hu], ?_⟩
      simp [List.findIdx?_cons, hb.1, hu]
    · rename_i hu
      obtain ⟨m, v', h1, h2, h3⟩ := findStamp_ok hb.2 h
      refine ⟨m + 1, v', by omega, by simpa using h2, ?_⟩
      have : ¬ ((e.born : Int) = (t : Int)) := by rw [hb.1]; intro hh; apply hu; omega
      simp [List.findIdx?_cons, this, h3]

theorem entryStore_ok (R : Rel S F i h.get h.next w) {t : TypeId} {m s u v : AV} {x y z : Value} {h' : Heap} (gm : VRel i m x) (gs : VRel i s y) (gv : VRel i u z)
    (he : entryStoreR h (some m) (some s) (some u) = .wr v h') : ∃ w', (Instr.entryStore t x y z).run C.P w = .ok () w' ∧ v = .tup [] ∧ Rel S F i h'.get h'.next w' := by
  unfold entryStoreR at he
  split at he
  · rename_i b kk ts u' e1 e2 e3
    simp only [Option.some.injEq] at e1 e2 e3; subst e1 e2 e3
    simp only [VRel] at gm gs
    obtain ⟨c, hc, rfl⟩ := gm
    subst gs
    split at he
    · rename_i es clock hb
      obtain ⟨c', hc', ents, hw, hm, hbo, hap, hst⟩ := R.objs b _ hb rfl
      rw [hc] at hc'; cases hc'
      split at he
      · rename_i n k hf
        simp only [OpR.wr.injEq] at he
        obtain ⟨rfl, rfl⟩ := he
        obtain ⟨m', v0, h1, h2, h3⟩ := findStamp_ok hbo hf
        have hn : n = m' := by omega
        subst hn
        obtain ⟨p1, p2⟩ := exact_put (v := u) h2
        have hpl : (plainEs es)[n]? = some (k, v0) := by simp [plainEs, h2]
        obtain ⟨m1, m2⟩ := hm.modify hpl (fun e => { e with val := z }) (v := u) (fun e h1 _ => ⟨h1, gv, rfl⟩)
        refine ⟨setBlk w c.1 (.map (ents.modify n fun e => { e with val := z }) clock), ?_, rfl, ?_⟩
        · have h3' : ents.findIdx? (fun e => (e.born : Int) == (ts : Int)) = some n := by rw [show ents = ents.toList.toArray from rfl, List.findIdx?_toArray]; exact h3
          have h3'' : ents.findIdx? (fun e => (e.born : Int) == Int.ofNat ts) = some n := h3'
          simp only [Instr.entryStore, Sem.run_bind, Result.andThen_ok, run_getMap hw, asInt, asIntOf, Sem.run_pure, h3'', run_setMap hw]
        · rw [Heap.get_set']
          refine R.setBlk hb rfl hc rfl hw ?_
          exact ⟨_, rfl, by rw [p1]; exact m1, by rw [m2, hbo, p2], by rw [p1]; exact keysApart_put hpl hap, stamps_same hst m2⟩
      · cases he
    · cases he
  · cases he

theorem range_ok (hC : C.Tab) (R : Rel S F i h.get h.next w) {t : TypeId} {m v : AV} {x : Value} {h' : Heap} (gm : VRel i m x)
    (he : rangeR h (C.und t) (some m) = .wr v h') : WrOk S F i w C.P (Instr.range t x) v h' := by
  have hfresh := R.fresh h.next (Nat.le_refl _)
  -- an iterator is made
  have mk : ∀ (O : Obj) (ob : AObj), ob.own = true → (∀ j : Emb, i.Le j → ORel S j 0 ob (some O)) → v = .ptr h.next 0 → h' = h.add ob →
      (Instr.range t x).run C.P w = .ok (.pointer (some ⟨w.heap.size, 0, none⟩)) (w.alloc O) → WrOk S F i w C.P (Instr.range t x) v h' := by
    rintro O ob hown hO rfl rfl hr
    refine ⟨_, _, i.upd h.next (w.heap.size, 0), hr, Emb.le_upd hfresh.1 _, ?_, ?_⟩
    · simp only [VRel]; exact ⟨_, Emb.upd_same _ _ _, rfl⟩
    · rw [Heap.get_add']
      exact R.add hfresh.1 hfresh.2 (Nat.lt_succ_self _) (Nat.le_succ _) rfl rfl rfl rfl hown (hO _ (Emb.le_upd hfresh.1 _))
  unfold rangeR at he
  split at he
  · rename_i k el hd e1
    simp only [Option.some.injEq] at e1; subst e1
    simp only [VRel] at gm; subst gm
    simp only [OpR.wr.injEq] at he
    refine mk (.mapIter none 0 #[] 0) (.miter none) rfl (fun j _ => ⟨0, 0, rfl⟩) he.1.symm he.2.symm ?_
    simp [Instr.range, run_underlying (und_ok hC hd)]
  · rename_i k el m' hd e1
    simp only [Option.some.injEq] at e1; subst e1
    simp only [VRel] at gm
    obtain ⟨c, hc, rfl⟩ := gm
    split at he
    · rename_i es clock hb
      obtain ⟨c', hc', ents, hw, _⟩ := R.objs m' _ hb rfl
      rw [hc] at hc'; cases hc'
      simp only [OpR.wr.injEq] at he
      refine mk (.mapIter (some c.1) clock #[] clock) (.miter (some (m', clock))) rfl (fun j hj => ⟨c, hj _ _ hc, clock, rfl, rfl⟩) he.1.symm he.2.symm ?_
      simp [Instr.range, run_underlying (und_ok hC hd), run_getMap hw]
    · rename_i es clock hb
      obtain ⟨c', hc', ents, l, hw, _⟩ := R.objs m' _ hb rfl
      rw [hc] at hc'; cases hc'
      simp only [OpR.wr.injEq] at he
      refine mk (.mapIter (some c.1) clock #[] clock) (.miter (some (m', clock))) rfl (fun j hj => ⟨c, hj _ _ hc, clock, rfl, rfl⟩) he.1.symm he.2.symm ?_
      simp [Instr.range, run_underlying (und_ok hC hd), run_getMap hw]
    · cases he
  · cases he

theorem sameSlice_ok (hC : C.Tab) (R : Rel S F i h.get h.next w) {src dst a b' : TypeId} {x v : AV} {u : Value} {h' : Heap} (hs : C.und src = some (.slice a)) (hd : C.und dst = some (.slice b')) (gx : VRel i x u)
    (he : sameSliceR C h src dst b' (some x) = .wr v h') : WrOk S F i w C.P (convert src dst u) v h' := by
  unfold sameSliceR at he
  split at he
  · rename_i b o n cp e1
    simp only [Option.some.injEq] at e1; subst e1
    split at he
    · rename_i cs hel hb
      rw [cond_beq] at he
      split at he
      · rename_i hsd
        simp only [OpR.wr.injEq] at he
        obtain ⟨rfl, rfl⟩ := he
        have gx' := gx
        simp only [VRel] at gx
        obtain ⟨c, m, hc, rfl, hcap⟩ := gx
        obtain ⟨c', hc', arr, el, lo, hi, hw, hsz, hle, hv, hfz⟩ := R.objs b _ hb rfl
        rw [hc] at hc'; cases hc'
        have hshape : w.shape? c.1 = some (el, arr.size) := by simp [World.shape?, hw]
        have hbeq : (src == dst) = true := by simpa using hsd
        refine ⟨.slice (some ⟨c.1, o, none⟩) n m, w.freeze ⟨c.1, arr.size, none⟩ 1, i, ?_, Emb.Le.refl _, gx', ?_⟩
        · simp only [convert, Sem.run_bind, run_underlying (und_ok hC hs), run_underlying (und_ok hC hd), Result.andThen_ok, hbeq, run_underlying (und_ok hC hel), markStringish, run_shape, hshape, run_freeze, Sem.run_pure]
        · have hG : h.get = updG h.get b (.cells cs) := by
            funext k; unfold updG; split
            · rename_i e; rw [e, hb]
            · rfl
          rw [hG]
          have hheap : ∀ k, (w.freeze ⟨c.1, arr.size, none⟩ 1).heap[k]? = if k = c.1 then some (.cells arr el (if lo == hi then (arr.size, arr.size + 1) else (min lo arr.size, max hi (arr.size + 1)))) else w.heap[k]? := by
            intro k
            simp only [World.freeze, if_neg (show ¬ (1 = 0) by decide), Array.getElem?_modify]
            by_cases hk : c.1 = k
            · rw [if_pos hk, if_pos hk.symm, ← hk, hw]; rfl
            · rw [if_neg hk, if_neg (fun e => hk e.symm)]
          have hos : (w.freeze ⟨c.1, arr.size, none⟩ 1).os = w.os ∧ (w.freeze ⟨c.1, arr.size, none⟩ 1).output = w.output ∧ (w.freeze ⟨c.1, arr.size, none⟩ 1).tape = w.tape := by
            simp only [World.freeze, if_neg (show ¬ (1 = 0) by decide)]; exact ⟨trivial, trivial, trivial⟩
          refine R.write hb rfl hc rfl ?_ (fun k hk => by rw [hheap, if_neg hk]) hos.1 hos.2.1 hos.2.2
          rw [hheap, if_pos rfl]
          by_cases hlh : lo = hi
          · have : (lo == hi) = true := by simpa using hlh
            rw [this]
            exact ⟨arr, el, _, _, rfl, hsz, hle, hv, .inr (by omega)⟩
          · have : (lo == hi) = false := by simpa using hlh
            rw [this]
            exact ⟨arr, el, _, _, rfl, hsz, hle, hv, .inr (by omega)⟩
      · cases he
    · cases he
  · cases he

end
end
end Go.Ev
namespace Go.Ev

section
variable {S : String → Code → Prop} {F : Fr} {i : Emb} {h : Heap} {w : World} {C : Ctx}

/-- A block under a second name; the first is not asked for any more. -/
theorem Rel.alias {G : Nat → Option AObj} {n : Nat} (R : Rel S F i G n w) {b d m : Nat} {o ob : AObj} {c : Nat × Nat} (hb : G b = some o) (ho : o.own = true) (hc : i b = some c) (hd : i d = none) (hg : G d = none)
    (hdm : d < m) (hnm : n ≤ m) (hown : ob.own = true) (hO : ORel S (i.upd d c) c.2 ob w.heap[c.1]?) : Rel S F (i.upd d c) (updG (updG G b .dead) d ob) m w := by
  have R' := R.kill hb
  have hne : d ≠ b := by rintro rfl; rw [hb] at hg; cases hg
  have hap := R.apart b o c hb ho hc
  -- another block that is owned lies elsewhere
  have other : ∀ {e x c'}, e ≠ d → updG G b .dead e = some x → x.own = true → i e = some c' → c'.1 ≠ c.1 := by
    intro e x c' he hx hxo hc' heq
    unfold updG at hx
    split at hx
    · simp only [Option.some.injEq] at hx; subst hx; simp [AObj.own] at hxo
    · rename_i hne'
      exact hne' (R.inj e b x o c' c hx hb hxo ho hc' hc heq)
  refine { objs := ?_, inj := ?_, fresh := ?_, keep := R.keep, apart := ?_, roFr := ?_, os := R.os, output := R.output, tape := R.tape }
  · intro e x hx hl
    unfold updG at hx
    split at hx
    · rename_i he; subst he
      simp only [Option.some.injEq] at hx; subst hx
      exact ⟨c, Emb.upd_same _ _ _, hO⟩
    · obtain ⟨c', hc', hr⟩ := R'.objs e x hx hl
      exact ⟨c', Emb.le_upd hd _ _ _ hc', hr.mono (Emb.le_upd hd _)⟩
  · intro e e' x x' c1 c2 he he' hx hx' hc1 hc2 heq
    by_cases h1 : e = d <;> by_cases h2 : e' = d
    · rw [h1, h2]
    · rw [updG, if_neg h2] at he'
      rw [Emb.upd, if_pos h1] at hc1; rw [Emb.upd, if_neg h2] at hc2
      simp only [Option.some.injEq] at hc1; subst hc1
      exact absurd heq.symm (other h2 he' hx' hc2)
    · rw [updG, if_neg h1] at he
      rw [Emb.upd, if_neg h1] at hc1; rw [Emb.upd, if_pos h2] at hc2
      simp only [Option.some.injEq] at hc2; subst hc2
      exact absurd heq (other h1 he hx hc1)
    · rw [updG, if_neg h1] at he; rw [updG, if_neg h2] at he'
      rw [Emb.upd, if_neg h1] at hc1; rw [Emb.upd, if_neg h2] at hc2
      exact R'.inj e e' x x' c1 c2 he he' hx hx' hc1 hc2 heq
  · intro e he
    have : e ≠ d := by omega
    unfold updG Emb.upd
    rw [if_neg this, if_neg this]
    exact R'.fresh e (by omega)
  · intro e x c' he hx hc'
    by_cases h1 : e = d
    · rw [Emb.upd, if_pos h1] at hc'
      simp only [Option.some.injEq] at hc'; subst hc'
      exact hap
    · rw [updG, if_neg h1] at he; rw [Emb.upd, if_neg h1] at hc'
      exact R'.apart e x c' he hx hc'
  · intro e cs c' he hc'
    by_cases h1 : e = d
    · rw [updG, if_pos h1] at he
      simp only [Option.some.injEq] at he; subst he; simp [AObj.own] at hown
    · rw [updG, if_neg h1] at he; rw [Emb.upd, if_neg h1] at hc'
      exact R'.roFr e cs c' he hc'

/-- What is appended or copied. -/
theorem cells_ok (R : Objs S i h.get w) {P : Program} {size n : Nat} {x : AV} {y : Value} {new : List AV} (gx : VRel i x y) (hc : srcCells h size n x = some new) (hn : ∀ m, srcLen x = some m → n ≤ m) :
    ∃ news : List Value, VRels i new news ∧ news.length = n * size ∧ (Builtin.firstCells size n y).run P w = .ok news.toArray w ∧ (Builtin.firstCells size n y).run P w.drew = .ok news.toArray w.drew := by
  unfold srcCells at hc
  split at hc
  · simp only [Option.some.injEq] at hc; subst hc
    simp only [VRel] at gx; subst gx
    have := hn 0 rfl
    obtain rfl : n = 0 := by omega
    exact ⟨[], by simp [VRels], by simp, run_firstCells_none w size 0 0 0, run_firstCells_none w.drew size 0 0 0⟩
  · simp only [Option.some.injEq] at hc; subst hc
    simp only [VRel] at gx
    obtain ⟨a, m, rfl⟩ := gx
    have := hn 0 rfl
    obtain rfl : n = 0 := by omega
    exact ⟨[], by simp [VRels], by simp, run_firstCells_some w size 0 a 0 m [] (by simp) (by simp), run_firstCells_some w.drew size 0 a 0 m [] (by simp) (by simp)⟩
  · rename_i b o ln cp
    simp only [VRel] at gx
    obtain ⟨c, m, hcb, rfl, hcap⟩ := gx
    split at hc
    · rename_i ob hb
      split at hc
      · rename_i cs hr
        obtain ⟨c', arr, el, fz, hc', hw, hsz, hle, hv⟩ := R.row hb hr
        rw [hcb] at hc'; cases hc'
        obtain ⟨h1, h2, h3⟩ := cut_ok hc hv
        have hlen : (((arr.toList.take cs.length).drop o).take (n * size)).length = n * size := by rw [← h1.length]; exact h3
        have hcells : ∀ j v, (((arr.toList.take cs.length).drop o).take (n * size))[j]? = some v → w.cell? ((⟨c.1, o, none⟩ : Addr).add j) = some v := by
          intro j v hj
          have hjn : j < n * size := by
            have := (List.getElem?_eq_some_iff.1 hj).1; omega
          rw [Addr.add_mid, cell_at hw]
          rw [List.getElem?_take_of_lt hjn, List.getElem?_drop] at hj
          have hlt : o + j < cs.length := by
            have := (List.getElem?_eq_some_iff.1 hj).1
            simp at this; omega
          rw [List.getElem?_take_of_lt hlt] at hj
          simpa using hj
        exact ⟨_, h1, hlen, run_firstCells_some w size n _ _ _ _ hlen hcells, run_firstCells_some w.drew size n _ _ _ _ hlen (by simpa using hcells)⟩
      · exact absurd hc (by simp)
    · exact absurd hc (by simp)
  · rename_i s
    simp only [VRel] at gx
    obtain ⟨t, rfl, hs⟩ := gx
    rw [cond_beq] at hc
    split at hc
    · rename_i hsz; subst hsz
      simp only [Option.some.injEq] at hc; subst hc
      have hle := hn s.length rfl
      have hlen : s.length = t.data.toList.length := by rw [← hs, List.length_map]
      have hdat : (t.extract 0 n).data.toList = t.data.toList.take n := by
        rw [ByteArray.data_extract]
        simp [List.extract_eq_take_drop]
      refine ⟨(t.data.toList.take n).map fun b => Value.int .u8 b.toNat, ?_, ?_, ?_, ?_⟩
      · rw [← hs, ← List.map_take]
        have : ∀ l : List UInt8, VRels i ((l.map UInt8.toNat).map fun n => AV.int .u8 (.ofNat n)) (l.map fun b => Value.int .u8 b.toNat) := by
          intro l
          induction l with
          | nil => simp [VRels]
          | cons x l ih => simp only [List.map_cons, VRels, VRel]; exact ⟨rfl, ih⟩
        exact this _
      · rw [List.length_map, List.length_take]; omega
      all_goals
        simp only [Builtin.firstCells, Sem.run_pure]
        rw [amap, hdat]
    · exact absurd hc (by simp)
  · exact absurd hc (by simp)

theorem srcLen_ok {x : AV} {y : Value} {n : Nat} (gx : VRel i x y) (h : srcLen x = some n) {P : Program} (w' : World) : (Builtin.lenOf y).run P w' = .ok n w' := by
  cases x <;> simp only [srcLen, Option.some.injEq] at h <;> try (cases h; done)
  all_goals simp only [VRel] at gx
  · obtain ⟨t, rfl, hs⟩ := gx
    subst h
    rw [← hs, List.length_map, Array.length_toList]
    rfl
  · subst gx h; rfl
  · obtain ⟨c, m, _, rfl, _⟩ := gx; subst h; rfl
  · obtain ⟨a, m, rfl⟩ := gx; subst h; rfl

theorem src_ok (R : Objs S i h.get w) {P : Program} {size n : Nat} {tx : TypeId} {x : AV} {y : Value} {new : List AV} (hk : (∃ e', P.underlying tx = some (.slice e')) ∨ P.underlying tx = some .string)
    (gx : VRel i x y) (hl : srcLen x = some n) (hc : srcCells h size n x = some new) (h1 : allOne new = true) : ∃ news, VRels i new news ∧ Src P size tx y n news w := by
  obtain ⟨news, a1, a2, a3, a4⟩ := cells_ok (P := P) R gx hc (fun m hm => by rw [hl] at hm; cases hm; exact Nat.le_refl _)
  exact ⟨news, a1, hk, fun w' => srcLen_ok gx hl w', a3, a4, a2, allOne_mem a1 h1⟩

end
end Go.Ev
