/-
  EvMap: operations on maps. No condition.
-/
import Derived.Test.YtmmaneofdfbllaaGreatEvNew
set_option linter.unusedVariables false
set_option linter.unusedSimpArgs false
set_option linter.unusedSectionVars false
namespace Go.Ev

theorem keyEq_comm (a b : AV) : keyEq a b = keyEq b a := by
  cases a <;> cases b <;> try rfl
  · rename_i x y; simp only [keyEq]; cases x <;> cases y <;> rfl
  · rename_i j x k y
    simp only [keyEq, cond_beq, ieq_eq]
    by_cases h : kidx j = kidx k
    · rw [if_pos h, if_pos h.symm]; congr 1; rw [Bool.eq_iff_iff]; simp; exact eq_comm
    · rw [if_neg h, if_neg (fun e => h e.symm)]
  · rename_i x y; simp only [keyEq, listEq_eq]; congr 1; rw [Bool.eq_iff_iff]; simp; exact eq_comm
abbrev apartK (a b : AV) : Prop := keyEq a b = some false ∧ keyEq b a = some false
theorem keysApart_iff : ∀ (l : List (AV × AV)), keysApart l ↔ (l.map (·.1)).Pairwise apartK
  | [] => by simp [keysApart]
  | (k, v) :: l => by
    simp only [keysApart, List.map_cons, List.pairwise_cons, keysApart_iff l, List.mem_map]
    constructor
    · rintro ⟨h1, h2⟩
      refine ⟨?_, h2⟩
      rintro x ⟨y, hy, rfl⟩
      exact h1 y hy
    · rintro ⟨h1, h2⟩
      exact ⟨fun x hx => h1 _ ⟨x, hx, rfl⟩, h2⟩

theorem findU_keys {k : AV} : ∀ {l : List (AV × AV)} {j n : Nat} {v : AV}, findU k l j = some (some (n, v)) → keyEq k k = some true
  | [], _, _, _, h => by simp [findU] at h
  | (a, u) :: l, j, n, v, h => by
    simp only [findU] at h
    split at h
    · exact keyEq_refl (by assumption)
    · exact keyEq_refl (by assumption)
    · exact absurd h (by simp)

section
variable {i : Emb}

theorem MRel.get : ∀ {l : List (AV × AV)} {m : List MapEntry} (n : Nat) {k v : AV}, MRel i l m → l[n]? = some (k, v) → ∃ e, m[n]? = some e ∧ VRel i k e.key ∧ VRel i v e.val
  | [], _, n, _, _, _, h => by simp at h
  | (a, b) :: l, e :: m, 0, k, v, g, h => by
    simp only [MRel] at g; simp at h; obtain ⟨rfl, rfl⟩ := h
    exact ⟨e, rfl, g.1, g.2.1⟩
  | (a, b) :: l, e :: m, n + 1, k, v, g, h => by
    simp only [MRel] at g
    simpa using MRel.get n g.2.2 (by simpa using h)
  | (_, _) :: _, [], _, _, _, g, _ => by simp [MRel] at g
theorem MRel.append : ∀ {l l' : List (AV × AV)} {m m' : List MapEntry}, MRel i l m → MRel i l' m' → MRel i (l ++ l') (m ++ m')
  | [], _, [], _, _, h => h
  | (_, _) :: l, _, _ :: m, _, g, h => by simp only [MRel, List.cons_append] at g ⊢; exact ⟨g.1, g.2.1, g.2.2.append h⟩
  | [], _, _ :: _, _, g, _ => by simp [MRel] at g
  | (_, _) :: _, _, [], _, g, _ => by simp [MRel] at g
theorem MRel.take : ∀ {l : List (AV × AV)} {m : List MapEntry} (k : Nat), MRel i l m → MRel i (l.take k) (m.take k)
  | [], [], _, _ => by simp [MRel]
  | (_, _) :: _, _ :: _, 0, _ => by simp [MRel]
  | (_, _) :: l, _ :: m, k + 1, g => by simp only [MRel, List.take_succ_cons] at g ⊢; exact ⟨g.1, g.2.1, g.2.2.take k⟩
  | [], _ :: _, _, g => by simp [MRel] at g
  | (_, _) :: _, [], _, g => by simp [MRel] at g
theorem MRel.drop : ∀ {l : List (AV × AV)} {m : List MapEntry} (k : Nat), MRel i l m → MRel i (l.drop k) (m.drop k)
  | [], [], _, _ => by simp [MRel]
  | (_, _) :: _, _ :: _, 0, g => by simpa using g
  | (_, _) :: l, _ :: m, k + 1, g => by simp only [MRel, List.drop_succ_cons] at g ⊢; exact g.2.2.drop k
  | [], _ :: _, _, g => by simp [MRel] at g
  | (_, _) :: _, [], _, g => by simp [MRel] at g

theorem modify_list {α : Type} (f : α → α) : ∀ (l : List α) (n : Nat) (x : α), l[n]? = some x → l.modify n f = l.take n ++ f x :: l.drop (n + 1)
  | [], n, x, h => by simp at h
  | a :: l, 0, x, h => by simp at h; subst h; simp
  | a :: l, n + 1, x, h => by simp only [List.modify_succ_cons, List.take_succ_cons, List.drop_succ_cons, List.cons_append]; rw [modify_list f l n x (by simpa using h)]

/-- Keys of one kind that are the same key are the same value. -/
theorem key_unique {C : Ctx} {t : TypeId} {k : AV} (hk : keyKind C t k = true) {x y : Value} (hx : VRel i k x) (hy : VRel i k y) : x = y ∧ Instr.sameBits 10000 x y = true := by
  rcases keyKind_und hk with ⟨_, _, _, _, rfl⟩ | ⟨_, _, rfl⟩ | ⟨_, _, rfl⟩ <;> simp only [VRel] at hx hy
  · subst hx hy; exact ⟨rfl, by simp [Instr.sameBits]⟩
  · obtain ⟨s, rfl, h1⟩ := hx
    obtain ⟨t, rfl, h2⟩ := hy
    have : s = t := by
      obtain ⟨⟨a⟩⟩ := s
      obtain ⟨⟨b⟩⟩ := t
      have := map_toNat_inj (h1.trans h2.symm)
      simp at this
      rw [this]
    subst this
    exact ⟨rfl, by simp only [Instr.sameBits]; rw [beq_toListBytes]; simp⟩
  · subst hx hy; exact ⟨rfl, by simp [Instr.sameBits]⟩

theorem perm_pick {α : Type} : ∀ (l : List α) (n : Nat) (x : α), l[n]? = some x → l.Perm (x :: (l.take n ++ l.drop (n + 1)))
  | [], n, x, h => by simp at h
  | a :: l, 0, x, h => by simp at h; subst h; simp
  | a :: l, n + 1, x, h => by
    simp only [List.take_succ_cons, List.drop_succ_cons, List.cons_append]
    exact (List.Perm.cons a (perm_pick l n x (by simpa using h))).trans (List.Perm.swap _ _ _)
theorem perm_put {α : Type} (l : List α) (n : Nat) (y : α) : (l.take n ++ y :: l.drop (n + 1)).Perm (y :: (l.take n ++ l.drop (n + 1))) := List.perm_middle

theorem stamps_same {es es' : Array MapEntry} {clock : Nat} (h : Stamps es clock) (e : es'.toList.map (·.born) = es.toList.map (·.born)) : Stamps es' clock := by
  obtain ⟨h1, h2⟩ := h
  refine ⟨by rw [e]; exact h1, ?_⟩
  intro x hx
  have : x.born ∈ es.toList.map (·.born) := by rw [← e]; exact List.mem_map_of_mem hx
  obtain ⟨y, hy, hb⟩ := List.mem_map.1 this
  rw [← hb]; exact h2 y hy
theorem stamps_push {es : Array MapEntry} {clock : Nat} (h : Stamps es clock) (k v : Value) : Stamps (es.push { key := k, val := v, born := clock }) (clock + 1) := by
  obtain ⟨h1, h2⟩ := h
  refine ⟨?_, ?_⟩
  · simp only [Array.toList_push, List.map_append, List.map_cons, List.map_nil]
    rw [List.nodup_append]
    refine ⟨h1, by simp, ?_⟩
    intro x hx y hy
    simp only [List.mem_singleton] at hy
    subst hy
    obtain ⟨e, he, hb⟩ := List.mem_map.1 hx
    have := h2 e he
    omega
  · intro x hx
    simp only [Array.toList_push, List.mem_append, List.mem_singleton] at hx
    rcases hx with hx | rfl
    · have := h2 x hx; omega
    · simp
theorem stamps_sub {es : List MapEntry} {es' : Array MapEntry} {clock : Nat} (h1 : (es.map (·.born)).Nodup) (h2 : ∀ e ∈ es, e.born < clock) (hs : es'.toList.Sublist es) : Stamps es' clock :=
  ⟨(hs.map _).nodup h1, fun e he => h2 e (hs.subset he)⟩

/-- An entry that stands is given another value: the entries. -/
theorem MRel.modify {l : List (AV × AV)} {ents : Array MapEntry} (hm : MRel i l ents.toList) {n : Nat} {k u v : AV} (hl : l[n]? = some (k, u)) (f : MapEntry → MapEntry)
    (hf : ∀ e, VRel i k e.key → VRel i u e.val → VRel i k (f e).key ∧ VRel i v (f e).val ∧ (f e).born = e.born) :
    MRel i (l.take n ++ (k, v) :: l.drop (n + 1)) (ents.modify n f).toList ∧ (ents.modify n f).toList.map (·.born) = ents.toList.map (·.born) := by
  obtain ⟨e, he, gk, gv⟩ := hm.get n hl
  have hmod : (ents.modify n f).toList = ents.toList.take n ++ f e :: ents.toList.drop (n + 1) := by
    rw [Array.toList_modify]; exact modify_list f _ n e he
  obtain ⟨f1, f2, f3⟩ := hf e gk gv
  refine ⟨?_, ?_⟩
  · rw [hmod]
    refine (hm.take n).append ?_
    simp only [MRel]
    exact ⟨f1, f2, hm.drop (n + 1)⟩
  · rw [hmod]
    have : ents.toList = ents.toList.take n ++ e :: ents.toList.drop (n + 1) := by
      have := modify_list id ents.toList n e he
      simpa using this
    have e2 : ents.toList.map (·.born) = (ents.toList.take n ++ e :: ents.toList.drop (n + 1)).map (·.born) := congrArg _ this
    rw [e2]
    simp [f3]

theorem run_stays {P : Program} {C : Ctx} {t : TypeId} (w : World) {k : AV} (hk : keyKind C t k = true) {x y : Value} (hx : VRel i k x) (hy : VRel i k y) : (Instr.keyThatStays x y).run P w = .ok y w := by
  simp [Instr.keyThatStays, (key_unique hk hx hy).2]

end
end Go.Ev
namespace Go.Ev
noncomputable section

section
variable {S : String → Code → Prop} {F : Fr} {i : Emb} {h : Heap} {w : World} {C : Ctx}

def setBlk (w : World) (r : Nat) (o : Obj) : World := { w with heap := w.heap.setIfInBounds r o }
theorem setBlk_same {r : Nat} {o p : Obj} (hr : w.heap[r]? = some p) : (setBlk w r o).heap[r]? = some o := by
  have := (Array.getElem?_eq_some_iff.1 hr).1
  simp [setBlk, this]
theorem setBlk_other {r k : Nat} {o : Obj} (hk : k ≠ r) : (setBlk w r o).heap[k]? = w.heap[k]? := by
  have : r ≠ k := fun e => hk e.symm
  simp [setBlk, this]
theorem run_setMap {P : Program} {r : Nat} {es : Array MapEntry} {clock : Nat} (hr : w.heap[r]? = some (.map es clock)) (o : Obj) : (setObj r o).run P w = .ok () (setBlk w r o) := by
  simp only [setObj, Sem.run, hr, setBlk]
theorem run_getMap {P : Program} {r : Nat} {es : Array MapEntry} {clock : Nat} (hr : w.heap[r]? = some (.map es clock)) : (getObj r).run P w = .ok (.map es clock) w := by
  simp only [getObj, Sem.run, hr]

theorem Rel.setBlk {G : Nat → Option AObj} {n : Nat} (R : Rel S F i G n w) {b : Nat} {o ob : AObj} {c : Nat × Nat} {p q : Obj} (hb : G b = some o) (ho : o.own = true) (hc : i b = some c) (hown : ob.own = true)
    (hp : w.heap[c.1]? = some p) (h1 : ORel S i c.2 ob (some q)) : Rel S F i (updG G b ob) n (setBlk w c.1 q) :=
  R.write hb ho hc hown (by rw [setBlk_same hp]; exact h1) (fun k hk => setBlk_other hk) rfl rfl rfl

theorem plainEs_take (es : List (AV × AV × Nat)) (n : Nat) : plainEs (es.take n) = (plainEs es).take n := by simp [plainEs, List.map_take]
theorem plainEs_drop (es : List (AV × AV × Nat)) (n : Nat) : plainEs (es.drop n) = (plainEs es).drop n := by simp [plainEs, List.map_drop]

theorem keysApart_put {l : List (AV × AV)} {n : Nat} {k u v : AV} (hl : l[n]? = some (k, u)) (h : keysApart l) : keysApart (l.take n ++ (k, v) :: l.drop (n + 1)) := by
  rw [keysApart_iff] at h ⊢
  have e : l.map (·.1) = (l.take n ++ (k, u) :: l.drop (n + 1)).map (·.1) := by
    have := modify_list id l n _ hl
    simp only [List.modify_id, id_eq] at this
    exact congrArg (List.map (·.1)) this
  rw [e] at h
  simpa using h
theorem keysApart_push {l : List (AV × AV)} {k v : AV} (h : keysApart l) (hf : ∀ x ∈ l, keyEq k x.1 = some false) : keysApart (l ++ [(k, v)]) := by
  rw [keysApart_iff] at h ⊢
  simp only [List.map_append, List.map_cons, List.map_nil]
  rw [List.pairwise_append]
  refine ⟨h, by simp, ?_⟩
  intro x hx y hy
  simp only [List.mem_singleton] at hy; subst hy
  obtain ⟨z, hz, rfl⟩ := List.mem_map.1 hx
  exact ⟨by rw [keyEq_comm]; exact hf z hz, hf z hz⟩
theorem keysApart_sub {l m : List (AV × AV)} (h : keysApart l) (hs : m.Sublist l) : keysApart m := by
  rw [keysApart_iff] at h ⊢
  exact h.sublist (hs.map _)

theorem findKey_some {k : AV} {es : List (AV × AV × Nat)} {n t : Nat} {v : AV} (h : findKey k es 0 = some (some (n, v, t))) : es[n]? = some (k, v, t) ∧ findU k (plainEs es) 0 = some (some (n, v)) := by
  have hp := findKey_plain (k := k) (es := es) (j := 0)
  rw [h] at hp
  refine ⟨?_, hp.symm⟩
  have aux : ∀ (es : List (AV × AV × Nat)) (j n : Nat), findKey k es j = some (some (n, v, t)) → ∃ m, n = j + m ∧ es[m]? = some (k, v, t) := by
    intro es
    induction es with
    | nil => intro j n h; simp [findKey] at h
    | cons x es ih =>
      intro j n h
      obtain ⟨a, u, s⟩ := x
      simp only [findKey] at h
      split at h
      · rename_i hk
        simp only [Option.some.injEq, Prod.mk.injEq] at h
        obtain ⟨rfl, rfl, rfl⟩ := h
        exact ⟨0, rfl, by simp [keyEq_true hk]⟩
      · obtain ⟨m, h1, h2⟩ := ih _ _ h
        exact ⟨m + 1, by omega, by simpa using h2⟩
      · exact absurd h (by simp)
  obtain ⟨m, h1, h2⟩ := aux es 0 n h
  rw [show n = m by omega]; exact h2
theorem findKey_none {k : AV} {es : List (AV × AV × Nat)} (h : findKey k es 0 = some none) : findU k (plainEs es) 0 = some none := by
  have hp := findKey_plain (k := k) (es := es) (j := 0)
  rw [h] at hp; exact hp.symm

/-- The new entries, where a key stands. -/
theorem exact_put {es : List (AV × AV × Nat)} {n t : Nat} {k u v : AV} (h : es[n]? = some (k, u, t)) :
    plainEs (es.take n ++ (k, v, t) :: es.drop (n + 1)) = (plainEs es).take n ++ (k, v) :: (plainEs es).drop (n + 1) ∧
    (es.take n ++ (k, v, t) :: es.drop (n + 1)).map (·.2.2) = es.map (·.2.2) := by
  refine ⟨by simp [plainEs, List.map_take, List.map_drop], ?_⟩
  have := modify_list id es n _ h
  simp only [List.modify_id, id_eq] at this
  have e : es.map (·.2.2) = (es.take n ++ (k, u, t) :: es.drop (n + 1)).map (·.2.2) := congrArg _ this
  rw [e]; simp

theorem ents_push_list (ents : Array MapEntry) (x : MapEntry) : (ents.push x).toList = ents.toList ++ [x] := by simp

theorem mapPut_ok (hC : C.Tab) (R : Rel S F i h.get h.next w) {t kt et : TypeId} {b : Nat} {c : Nat × Nat} {k v : AV} {x y : Value} {h' : Heap} (hd : C.und t = some (.map kt et)) (hc : i b = some c)
    (hkk : keyKind C kt k = true) (gk : VRel i k x) (gv : VRel i v y) (hp : mapPut h b k v = some h') :
    ∃ w', (Instr.mapUpdate t (.map (some c.1)) x y).run C.P w = .ok () w' ∧ Rel S F i h'.get h'.next w' := by
  have hu := und_ok hC hd
  have hck : (Instr.checkKey false 10000 kt x).run C.P w = .ok () w := run_checkKey hC w gk hkk false 9999
  unfold mapPut at hp
  split at hp
  · rename_i es clock hb
    obtain ⟨c', hc', ents, hw, hm, hbo, hap, hst⟩ := R.objs b _ hb rfl
    rw [hc] at hc'; cases hc'
    split at hp
    · rename_i n u ts hf
      simp only [Option.some.injEq] at hp; subst hp
      obtain ⟨f1, f2⟩ := findKey_some hf
      obtain ⟨p1, p2⟩ := exact_put (v := v) f1
      have hpl : (plainEs es)[n]? = some (k, u) := by simp [plainEs, f1]
      rcases run_findKey hC w gk hkk hm f2 with ⟨e, _⟩ | ⟨n', v', z, e, hr, _⟩
      · cases e
      · simp only [Option.some.injEq, Prod.mk.injEq] at e
        obtain ⟨rfl, rfl⟩ := e
        obtain ⟨e0, he0, ek0, _⟩ := hm.get n hpl
        have he0' : ents[n]? = some e0 := by simpa using he0
        obtain ⟨m1, m2⟩ := hm.modify hpl (fun e => { e with key := x, val := y }) (v := v) (fun e _ _ => ⟨gk, gv, rfl⟩)
        refine ⟨setBlk w c.1 (.map (ents.modify n fun e => { e with key := x, val := y }) clock), ?_, ?_⟩
        · simp only [Instr.mapUpdate, Sem.run_bind, run_underlying hu, Result.andThen_ok, run_getMap hw, hck, hr, he0', Option.map_some, Option.getD_some, run_stays w hkk ek0 gk, run_setMap hw]
        · rw [Heap.get_set']
          refine R.setBlk hb rfl hc rfl hw ?_
          refine ⟨_, rfl, by rw [p1]; exact m1, by rw [m2, hbo, p2], by rw [p1]; exact keysApart_put hpl hap, stamps_same hst m2⟩
    · rename_i hf
      simp only [Option.some.injEq] at hp; subst hp
      have f2 := findKey_none hf
      rcases run_findKey hC w gk hkk hm f2 with ⟨_, hr⟩ | ⟨n', v', z, e, _⟩
      · refine ⟨setBlk w c.1 (.map (ents.push { key := x, val := y, born := clock }) (clock + 1)), ?_, ?_⟩
        · simp only [Instr.mapUpdate, Sem.run_bind, run_underlying hu, Result.andThen_ok, run_getMap hw, hck, hr, run_setMap hw]
        · rw [Heap.get_set']
          refine R.setBlk hb rfl hc rfl hw ?_
          refine ⟨_, rfl, ?_, ?_, ?_, stamps_push hst x y⟩
          · rw [ents_push_list]
            have : plainEs (es ++ [(k, v, clock)]) = plainEs es ++ [(k, v)] := by simp [plainEs]
            rw [this]
            exact hm.append (by simp only [MRel]; exact ⟨gk, gv, trivial⟩)
          · rw [ents_push_list]; simp [hbo]
          · have : plainEs (es ++ [(k, v, clock)]) = plainEs es ++ [(k, v)] := by simp [plainEs]
            rw [this]
            exact keysApart_push hap (findU_none f2)
      · cases e
    · exact absurd hp (by simp)
  · rename_i es clock hb
    obtain ⟨c', hc', ents, l, hw, hperm, hm, hap, hst⟩ := R.objs b _ hb rfl
    rw [hc] at hc'; cases hc'
    split at hp
    · rename_i n u hf
      simp only [Option.some.injEq] at hp; subst hp
      obtain ⟨m0, e0, f1, _⟩ := findU_some hf
      have hn0 : n = m0 := by omega
      subst hn0
      obtain ⟨r', g1, g2⟩ := findU_perm hperm.symm hap hf
      cases r' with
      | none => simp at g2
      | some q =>
        obtain ⟨n', u'⟩ := q
        simp only [Option.map_some, Option.some.injEq] at g2; subst g2
        obtain ⟨m1, e1, f1', _⟩ := findU_some g1
        have hn1 : n' = m1 := by omega
        subst hn1
        rcases run_findKey hC w gk hkk hm g1 with ⟨e, _⟩ | ⟨n2, v2, z, e, hr, _⟩
        · cases e
        · simp only [Option.some.injEq, Prod.mk.injEq] at e
          obtain ⟨rfl, rfl⟩ := e
          obtain ⟨e0', he0, ek0, _⟩ := hm.get n' f1'
          have he0' : ents[n']? = some e0' := by simpa using he0
          obtain ⟨q1, q2⟩ := hm.modify f1' (fun e => { e with key := x, val := y }) (v := v) (fun e _ _ => ⟨gk, gv, rfl⟩)
          refine ⟨setBlk w c.1 (.map (ents.modify n' fun e => { e with key := x, val := y }) clock), ?_, ?_⟩
          · simp only [Instr.mapUpdate, Sem.run_bind, run_underlying hu, Result.andThen_ok, run_getMap hw, hck, hr, he0', Option.map_some, Option.getD_some, run_stays w hkk ek0 gk, run_setMap hw]
          · rw [Heap.get_set']
            refine R.setBlk hb rfl hc rfl hw ?_
            refine ⟨_, _, rfl, ?_, q1, keysApart_put f1 hap, stamps_same hst q2⟩
            have p1 := perm_pick l n' _ f1'
            have p2 := perm_pick es n _ f1
            have p3 : (l.take n' ++ l.drop (n' + 1)).Perm (es.take n ++ es.drop (n + 1)) := List.Perm.cons_inv ((p1.symm.trans hperm).trans p2)
            exact (perm_put l n' _).trans ((p3.cons _).trans (perm_put es n _).symm)
    · rename_i hf
      simp only [Option.some.injEq] at hp; subst hp
      obtain ⟨r', g1, g2⟩ := findU_perm hperm.symm hap hf
      cases r' with
      | some q => simp at g2
      | none =>
        rcases run_findKey hC w gk hkk hm g1 with ⟨_, hr⟩ | ⟨n', v', z, e, _⟩
        · refine ⟨setBlk w c.1 (.map (ents.push { key := x, val := y, born := clock }) (clock + 1)), ?_, ?_⟩
          · simp only [Instr.mapUpdate, Sem.run_bind, run_underlying hu, Result.andThen_ok, run_getMap hw, hck, hr, run_setMap hw]
          · rw [Heap.get_set']
            refine R.setBlk hb rfl hc rfl hw ?_
            refine ⟨_, l ++ [(k, v)], rfl, hperm.append_right _, ?_, keysApart_push hap (findU_none hf), stamps_push hst x y⟩
            rw [ents_push_list]
            exact hm.append (by simp only [MRel]; exact ⟨gk, gv, trivial⟩)
        · cases e
    · exact absurd hp (by simp)
  · exact absurd hp (by simp)

theorem erase_list {α : Type} (es : Array α) (n : Nat) : (es.eraseIdxIfInBounds n).toList = es.toList.take n ++ es.toList.drop (n + 1) := by
  unfold Array.eraseIdxIfInBounds
  split
  · rw [Array.toList_eraseIdx, List.eraseIdx_eq_take_drop_succ]
  · rename_i h
    rw [List.take_of_length_le (by simp; omega), List.drop_of_length_le (by simp; omega)]
    simp

theorem mapDel_ok (hC : C.Tab) (R : Rel S F i h.get h.next w) {t kt et : TypeId} {ty : TypeId} {ts : List TypeId} {b : Nat} {c : Nat × Nat} {k : AV} {x : Value} {h' : Heap} {rest : List Value} (hd : C.und t = some (.map kt et)) (hc : i b = some c)
    (hkk : keyKind C kt k = true) (gk : VRel i k x) (hp : mapDel h b k = some h') :
    ∃ w', (Builtin.delete_ (t :: ts).toArray ty (Value.map (some c.1) :: x :: rest).toArray).run C.P w = .ok (.tuple #[]) w' ∧ Rel S F i h'.get h'.next w' := by
  have hu := und_ok hC hd
  have a1 : (t :: ts).toArray[0]? = some t := by simp
  have a2 : (Value.map (some c.1) :: x :: rest).toArray[0]? = some (Value.map (some c.1)) := by simp
  have a3 : (Value.map (some c.1) :: x :: rest).toArray[1]? = some x := by simp
  have hck : ∀ b, (Instr.checkKey b 10000 kt x).run C.P w = .ok () w := fun b => run_checkKey hC w gk hkk b 9999
  unfold mapDel at hp
  split at hp
  · rename_i es clock hb
    obtain ⟨c', hc', ents, hw, hm, hbo, hap, hst⟩ := R.objs b _ hb rfl
    rw [hc] at hc'; cases hc'
    split at hp
    · rename_i n u ts' hf
      simp only [Option.some.injEq] at hp; subst hp
      obtain ⟨f1, f2⟩ := findKey_some hf
      rcases run_findKey hC w gk hkk hm f2 with ⟨e, _⟩ | ⟨n', v', z, e, hr, _⟩
      · cases e
      · simp only [Option.some.injEq, Prod.mk.injEq] at e
        obtain ⟨rfl, rfl⟩ := e
        refine ⟨setBlk w c.1 (.map (ents.eraseIdxIfInBounds n) clock), ?_, ?_⟩
        · simp only [Builtin.delete_, a1, a2, a3, Sem.run_bind, run_underlying hu, Result.andThen_ok, run_getMap hw, hck, hr, run_setMap hw, Sem.run_pure]
        · rw [Heap.get_set']
          refine R.setBlk hb rfl hc rfl hw ?_
          refine ⟨_, rfl, ?_, ?_, ?_, ?_⟩
          · rw [erase_list]
            have : plainEs (es.take n ++ es.drop (n + 1)) = (plainEs es).take n ++ (plainEs es).drop (n + 1) := by simp [plainEs, List.map_take, List.map_drop]
            rw [this]
            exact (hm.take n).append (hm.drop (n + 1))
          · rw [erase_list]; simp [List.map_take, List.map_drop, hbo]
          · refine keysApart_sub hap ?_
            have : plainEs (es.take n ++ es.drop (n + 1)) = (plainEs es).eraseIdx n := by rw [List.eraseIdx_eq_take_drop_succ]; simp [plainEs, List.map_take, List.map_drop]
            rw [this]
            exact List.eraseIdx_sublist _ _
          · exact stamps_sub hst.1 hst.2 (by rw [erase_list, ← List.eraseIdx_eq_take_drop_succ]; exact List.eraseIdx_sublist _ _)
    · rename_i hf
      simp only [Option.some.injEq] at hp; subst hp
      have f2 := findKey_none hf
      rcases run_findKey hC w gk hkk hm f2 with ⟨_, hr⟩ | ⟨n', v', z, e, _⟩
      · refine ⟨setBlk w c.1 (.map ents clock), ?_, ?_⟩
        · simp only [Builtin.delete_, a1, a2, a3, Sem.run_bind, run_underlying hu, Result.andThen_ok, run_getMap hw, hck, hr, run_setMap hw, Sem.run_pure]
        · refine R.world ?_ rfl rfl rfl
          apply Array.ext_getElem?
          intro k
          by_cases hk : k = c.1
          · subst hk; rw [setBlk_same hw, hw]
          · exact setBlk_other hk
      · cases e
    · exact absurd hp (by simp)
  · rename_i es clock hb
    obtain ⟨c', hc', ents, l, hw, hperm, hm, hap, hst⟩ := R.objs b _ hb rfl
    rw [hc] at hc'; cases hc'
    split at hp
    · rename_i n u hf
      simp only [Option.some.injEq] at hp; subst hp
      obtain ⟨m0, e0, f1, _⟩ := findU_some hf
      have hn0 : n = m0 := by omega
      subst hn0
      obtain ⟨r', g1, g2⟩ := findU_perm hperm.symm hap hf
      cases r' with
      | none => simp at g2
      | some q =>
        obtain ⟨n', u'⟩ := q
        simp only [Option.map_some, Option.some.injEq] at g2; subst g2
        obtain ⟨m1, e1, f1', _⟩ := findU_some g1
        have hn1 : n' = m1 := by omega
        subst hn1
        rcases run_findKey hC w gk hkk hm g1 with ⟨e, _⟩ | ⟨n2, v2, z, e, hr, _⟩
        · cases e
        · simp only [Option.some.injEq, Prod.mk.injEq] at e
          obtain ⟨rfl, rfl⟩ := e
          refine ⟨setBlk w c.1 (.map (ents.eraseIdxIfInBounds n') clock), ?_, ?_⟩
          · simp only [Builtin.delete_, a1, a2, a3, Sem.run_bind, run_underlying hu, Result.andThen_ok, run_getMap hw, hck, hr, run_setMap hw, Sem.run_pure]
          · rw [Heap.get_set']
            refine R.setBlk hb rfl hc rfl hw ?_
            have p1 := perm_pick l n' _ f1'
            have p2 := perm_pick es n _ f1
            have p3 : (l.take n' ++ l.drop (n' + 1)).Perm (es.take n ++ es.drop (n + 1)) := List.Perm.cons_inv ((p1.symm.trans hperm).trans p2)
            refine ⟨_, l.take n' ++ l.drop (n' + 1), rfl, p3, ?_, ?_, ?_⟩
            · rw [erase_list]; exact (hm.take n').append (hm.drop (n' + 1))
            · refine keysApart_sub hap ?_
              rw [← List.eraseIdx_eq_take_drop_succ]; exact List.eraseIdx_sublist _ _
            · exact stamps_sub hst.1 hst.2 (by rw [erase_list, ← List.eraseIdx_eq_take_drop_succ]; exact List.eraseIdx_sublist _ _)
    · rename_i hf
      simp only [Option.some.injEq] at hp; subst hp
      obtain ⟨r', g1, g2⟩ := findU_perm hperm.symm hap hf
      cases r' with
      | some q => simp at g2
      | none =>
        rcases run_findKey hC w gk hkk hm g1 with ⟨_, hr⟩ | ⟨n', v', z, e, _⟩
        · refine ⟨setBlk w c.1 (.map ents clock), ?_, ?_⟩
          · simp only [Builtin.delete_, a1, a2, a3, Sem.run_bind, run_underlying hu, Result.andThen_ok, run_getMap hw, hck, hr, run_setMap hw, Sem.run_pure]
          · refine R.world ?_ rfl rfl rfl
            apply Array.ext_getElem?
            intro k
            by_cases hk : k = c.1
            · subst hk; rw [setBlk_same hw, hw]
            · exact setBlk_other hk
        · cases e
    · exact absurd hp (by simp)
  · exact absurd hp (by simp)

end
end
end Go.Ev
