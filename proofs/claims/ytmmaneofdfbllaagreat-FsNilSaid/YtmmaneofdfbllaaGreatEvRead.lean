/-
  EvRead: operations that read memory. No condition.
-/
import Derived.Test.YtmmaneofdfbllaaGreatEvPureB
set_option linter.unusedVariables false
set_option linter.unusedSimpArgs false
set_option linter.unusedSectionVars false
namespace Go.Ev

section
variable {S : String → Code → Prop} {i : Emb} {h : Heap} {w : World}

theorem rowOf_live {o : AObj} {cs : List AV} (h : rowOf o = some cs) : o.live = true := by
  cases o <;> simp [rowOf] at h <;> rfl

/-- The cells of a row, in the world. -/
theorem Objs.row (R : Objs S i h.get w) {b : Nat} {ob : AObj} {cs : List AV} (hb : h.get b = some ob) (hr : rowOf ob = some cs) :
    ∃ c arr el fz, i b = some c ∧ w.heap[c.1]? = some (.cells arr el fz) ∧ arr.size = c.2 ∧ cs.length ≤ arr.size ∧ VRels i cs (arr.toList.take cs.length) := by
  obtain ⟨c, hc, ho⟩ := R b ob hb (rowOf_live hr)
  cases ob <;> simp [rowOf] at hr <;> subst hr
  · obtain ⟨arr, el, lo, hi, h1, h2, h3, h4, h5⟩ := ho
    exact ⟨c, arr, el, _, hc, h1, h2, by omega, h4⟩
  · obtain ⟨arr, el, fz, h1, h2, h3, h4⟩ := ho
    exact ⟨c, arr, el, _, hc, h1, h2, by omega, h4⟩

theorem cell_at {c : Nat} {arr : Array Value} {el : TypeId} {fz : Nat × Nat} (hw : w.heap[c]? = some (.cells arr el fz)) (o : Nat) : w.cell? ⟨c, o, none⟩ = arr[o]? := by
  simp [World.cell?, hw]

theorem load_ok {C : Ctx} (hC : C.Tab) (R : Objs S i h.get w) {t : TypeId} {b o : Nat} {v : AV} {c : Nat × Nat} (hc : i b = some c) (hl : loadAV C h t b o = some v) :
    ∃ x, (Instr.loadAt t (.pointer (some ⟨c.1, o, none⟩))).run C.P w = .ok x w ∧ VRel i v x := by
  unfold loadAV at hl
  split at hl
  · rename_i ob hb
    split at hl
    · rename_i cs hr
      obtain ⟨c', arr, el, fz, hc', hw, hsz, hle, hv⟩ := R.row hb hr
      rw [hc] at hc'; cases hc'
      unfold part at hl
      split at hl
      · rename_i ha
        split at hl
        · rename_i n hn
          split at hl
          · rename_i l hcut
            simp only [Option.some.injEq] at hl; subst hl
            obtain ⟨h1, h2, h3⟩ := cut_ok hcut hv
            refine ⟨.agg (((arr.toList.take cs.length).drop o).take n).toArray, ?_, by simp only [VRel]; exact ⟨_, h1, rfl⟩⟩
            have hlen : (((arr.toList.take cs.length).drop o).take n).length = n := by rw [← h1.length]; exact h3
            have hcells : ∀ j v, (((arr.toList.take cs.length).drop o).take n)[j]? = some v → w.cell? ((⟨c.1, o, none⟩ : Addr).add j) = some v := by
              intro j v hj
              have hjn : j < n := by
                have := (List.getElem?_eq_some_iff.1 hj).1; omega
              rw [Addr.add_mid, cell_at hw]
              rw [List.getElem?_take_of_lt hjn, List.getElem?_drop] at hj
              have hlt : o + j < cs.length := by
                have := (List.getElem?_eq_some_iff.1 hj).1
                simp at this; omega
              rw [List.getElem?_take_of_lt hlt] at hj
              simpa using hj
            have hrun := run_loadCells_list (P := C.P) w ⟨c.1, o, none⟩ _ hcells
            rw [hlen] at hrun
            simp only [Instr.loadAt, Instr.sureAddr, Sem.run_bind, Sem.run_pure, Result.andThen_ok, loadVar, run_agg hC w ha, if_true, run_size hC w hn, hrun]
          · exact absurd hl (by simp)
        · exact absurd hl (by simp)
      · rename_i ha
        rw [nth_eq] at hl
        obtain ⟨x, hx, gx⟩ := VRels.get o hv hl
        refine ⟨x, ?_, gx⟩
        have hlt : o < cs.length := by
          have := (List.getElem?_eq_some_iff.1 hl).1; exact this
        rw [List.getElem?_take_of_lt hlt] at hx
        have hcell : w.cell? ⟨c.1, o, none⟩ = some x := by rw [cell_at hw]; simpa using hx
        simp only [Instr.loadAt, Instr.sureAddr, Sem.run_bind, Sem.run_pure, Result.andThen_ok, loadVar, run_agg hC w ha, Bool.false_eq_true, if_false, run_load, hcell]
      · exact absurd hl (by simp)
    · exact absurd hl (by simp)
  · exact absurd hl (by simp)

/-! ### Maps -/

theorem keyEq_true {k a : AV} (h : keyEq k a = some true) : k = a := by
  unfold keyEq at h
  split at h
  · rename_i p x q y
    rw [cond_beq] at h
    split at h
    · rename_i hk
      have := kidx_inj hk; subst this
      simp only [Option.some.injEq, ieq_eq, beq_iff_eq] at h; rw [h]
    · exact absurd h (by simp)
  · simp only [Option.some.injEq, listEq_eq, decide_eq_true_eq] at h; rw [h]
  · simp only [Option.some.injEq, beq_iff_eq] at h; rw [h]
  · exact absurd h (by simp)

theorem findU_none {k : AV} : ∀ {l : List (AV × AV)} {j : Nat}, findU k l j = some none → ∀ x ∈ l, keyEq k x.1 = some false
  | [], _, _ => by simp
  | (a, v) :: l, j, h => by
    simp only [findU] at h
    split at h
    · exact absurd h (by simp)
    · rename_i hk
      intro x hx
      rcases List.mem_cons.1 hx with rfl | hx
      · exact hk
      · exact findU_none h x hx
    · exact absurd h (by simp)
theorem findU_of_none {k : AV} : ∀ {l : List (AV × AV)} (j : Nat), (∀ x ∈ l, keyEq k x.1 = some false) → findU k l j = some none
  | [], _, _ => rfl
  | (a, v) :: l, j, h => by
    simp only [findU, h (a, v) (by simp)]
    exact findU_of_none (j + 1) fun x hx => h x (by simp [hx])
theorem findU_some {k : AV} : ∀ {l : List (AV × AV)} {j n : Nat} {v : AV}, findU k l j = some (some (n, v)) →
    ∃ m, n = j + m ∧ l[m]? = some (k, v) ∧ ∀ x ∈ l.take m, keyEq k x.1 = some false
  | [], _, _, _, h => by simp [findU] at h
  | (a, u) :: l, j, n, v, h => by
    simp only [findU] at h
    split at h
    · rename_i hk
      simp only [Option.some.injEq, Prod.mk.injEq] at h
      obtain ⟨rfl, rfl⟩ := h
      exact ⟨0, rfl, by simp [keyEq_true hk], by simp⟩
    · rename_i hk
      obtain ⟨m, h1, h2, h3⟩ := findU_some h
      refine ⟨m + 1, by omega, by simpa using h2, ?_⟩
      intro x hx
      simp only [List.take_succ_cons, List.mem_cons] at hx
      rcases hx with rfl | hx
      · exact hk
      · exact h3 x hx
    · exact absurd h (by simp)
theorem keyEq_refl {k a : AV} {b : Bool} (h : keyEq k a = some b) : keyEq k k = some true := by
  unfold keyEq at h ⊢
  split at h <;> simp_all [beq_nat, ieq_eq, listEq_eq]
theorem findU_of_mem {k : AV} (hk : keyEq k k = some true) : ∀ {l : List (AV × AV)} (j : Nat) {v : AV}, (k, v) ∈ l → keysApart l →
    ∃ n, findU k l j = some (some (j + n, v)) ∧ l[n]? = some (k, v)
  | [], _, _, h, _ => by simp at h
  | (a, u) :: l, j, v, h, ap => by
    simp only [keysApart] at ap
    rcases List.mem_cons.1 h with e | h
    · simp only [Prod.mk.injEq] at e
      obtain ⟨rfl, rfl⟩ := e
      exact ⟨0, by simp [findU, hk], by simp⟩
    · have := (ap.1 (k, v) h).2
      obtain ⟨n, h1, h2⟩ := findU_of_mem hk (j + 1) h ap.2
      refine ⟨n + 1, ?_, by simpa using h2⟩
      simp only [findU, this, h1]
      congr 3; omega
theorem keysApart_perm {l m : List (AV × AV)} (h : l.Perm m) : keysApart l → keysApart m := by
  induction h with
  | nil => exact id
  | cons x _ ih =>
    intro g
    obtain ⟨a, v⟩ := x
    simp only [keysApart] at g ⊢
    rename_i l1 l2 hp
    exact ⟨fun y hy => g.1 y (hp.symm.subset hy), ih g.2⟩
  | swap x y l =>
    intro g
    obtain ⟨a, v⟩ := x
    obtain ⟨b, u⟩ := y
    simp only [keysApart] at g ⊢
    have h1 := g.1 (a, v) (by simp)
    refine ⟨fun z hz => ?_, fun z hz => g.1 z (by simp [hz]), g.2.2⟩
    rcases List.mem_cons.1 hz with rfl | hz
    · exact ⟨h1.2, h1.1⟩
    · exact g.2.1 z hz
  | trans _ _ ih1 ih2 => exact fun g => ih2 (ih1 g)
/-- What stands at a key does not hang on the order. -/
theorem findU_perm {k : AV} {l m : List (AV × AV)} (hp : l.Perm m) (ap : keysApart l) {j : Nat} {r : Option (Nat × AV)} (h : findU k l j = some r) :
    ∃ r', findU k m j = some r' ∧ r'.map (·.2) = r.map (·.2) := by
  cases r with
  | none => exact ⟨none, findU_of_none j fun x hx => findU_none h x (hp.symm.subset hx), rfl⟩
  | some p =>
    obtain ⟨n, v⟩ := p
    obtain ⟨q, h1, h2, h3⟩ := findU_some h
    have hmem : (k, v) ∈ m := hp.subset (List.mem_of_getElem? h2)
    have hk : keyEq k k = some true := by
      have : ∃ a b, keyEq k a = some b := by
        cases l with
        | nil => simp at h2
        | cons x l =>
          obtain ⟨a, u⟩ := x
          simp only [findU] at h
          split at h
          · exact ⟨_, _, by assumption⟩
          · exact ⟨_, _, by assumption⟩
          · exact absurd h (by simp)
      obtain ⟨a, b, hb⟩ := this
      exact keyEq_refl hb
    obtain ⟨n', h4, _⟩ := findU_of_mem hk j hmem (keysApart_perm hp ap)
    exact ⟨_, h4, rfl⟩

theorem findKey_plain {k : AV} : ∀ {es : List (AV × AV × Nat)} {j : Nat}, (findKey k es j).map (fun r => r.map fun x => (x.1, x.2.1)) = findU k (plainEs es) j
  | [], _ => rfl
  | (a, v, t) :: es, j => by
    simp only [findKey, plainEs, List.map_cons, findU]
    cases hk : keyEq k a with
    | none => rfl
    | some b =>
      cases b
      · exact findKey_plain (es := es) (j := j + 1)
      · rfl

theorem keyKind_und {C : Ctx} {t : TypeId} {k : AV} (h : keyKind C t k = true) :
    (∃ ik jk n, C.und t = some (.int ik) ∧ k = .int jk n) ∨ (∃ s, C.und t = some .string ∧ k = .str s) ∨ (∃ b, C.und t = some .bool ∧ k = .bool b) := by
  unfold keyKind at h
  split at h
  · rename_i ik jk n hd; exact .inl ⟨ik, jk, n, hd, rfl⟩
  · rename_i s hd; exact .inr (.inl ⟨s, hd, rfl⟩)
  · rename_i b hd; exact .inr (.inr ⟨b, hd, rfl⟩)
  · exact absurd h (by simp)

theorem sameNow_ok {k a : AV} {x y : Value} {b : Bool} {d : TypeDesc} (hk : VRel i k x) (ha : VRel i a y) (h : keyEq k a = some b)
    (hd : (∃ ik jk n, d = .int ik ∧ k = .int jk n) ∨ (∃ s, d = .string ∧ k = .str s) ∨ (∃ b, d = .bool ∧ k = .bool b)) : Instr.sameNow d x y = some b := by
  unfold keyEq at h
  split at h
  · rename_i p m q n
    rw [cond_beq] at h
    split at h
    · rename_i he
      have := kidx_inj he; subst this
      simp only [Option.some.injEq] at h; subst h
      simp only [VRel] at hk ha; subst hk ha
      rcases hd with ⟨ik, jk, n', rfl, _⟩ | ⟨s, _, e⟩ | ⟨c, _, e⟩
      · simp [Instr.sameNow, ieq_eq]
      · cases e
      · cases e
    · exact absurd h (by simp)
  · simp only [Option.some.injEq] at h; subst h
    simp only [VRel] at hk ha
    obtain ⟨u, rfl, rfl⟩ := hk
    obtain ⟨v, rfl, rfl⟩ := ha
    rcases hd with ⟨_, _, _, _, e⟩ | ⟨s, rfl, _⟩ | ⟨c, _, e⟩
    · cases e
    · simp only [Instr.sameNow, listEq_bytes, beq_toListBytes]
    · cases e
  · simp only [Option.some.injEq] at h; subst h
    simp only [VRel] at hk ha; subst hk ha
    rcases hd with ⟨_, _, _, _, e⟩ | ⟨_, _, e⟩ | ⟨c, rfl, _⟩
    · cases e
    · cases e
    · simp [Instr.sameNow]
  · exact absurd h (by simp)

theorem findNow_ok {k : AV} {x : Value} {d : TypeDesc} (hk : VRel i k x)
    (hd : (∃ ik jk n, d = .int ik ∧ k = .int jk n) ∨ (∃ s, d = .string ∧ k = .str s) ∨ (∃ b, d = .bool ∧ k = .bool b)) :
    ∀ {l : List (AV × AV)} {ents : List MapEntry} {j : Nat} {r : Option (Nat × AV)}, MRel i l ents → findU k l j = some r →
      (r = none ∧ Instr.findNow d x ents j = some none) ∨ ∃ n v y, r = some (n, v) ∧ Instr.findNow d x ents j = some (some (n, y)) ∧ VRel i v y
  | [], [], j, r, _, h => by simp only [findU, Option.some.injEq] at h; subst h; exact .inl ⟨rfl, rfl⟩
  | (a, v) :: l, e :: ents, j, r, hm, h => by
    simp only [MRel] at hm
    simp only [findU] at h
    split at h
    · rename_i he
      simp only [Option.some.injEq] at h; subst h
      refine .inr ⟨j, v, e.val, rfl, ?_, hm.2.1⟩
      simp [Instr.findNow, sameNow_ok hk hm.1 he hd]
    · rename_i he
      rcases findNow_ok hk hd hm.2.2 h with ⟨rfl, h2⟩ | ⟨n, u, y, rfl, h2, h3⟩
      · exact .inl ⟨rfl, by simp [Instr.findNow, sameNow_ok hk hm.1 he hd, h2]⟩
      · exact .inr ⟨n, u, y, rfl, by simp [Instr.findNow, sameNow_ok hk hm.1 he hd, h2], h3⟩
    · exact absurd h (by simp)
  | [], _ :: _, _, _, hm, _ => by simp [MRel] at hm
  | (_, _) :: _, [], _, _, hm, _ => by simp [MRel] at hm

theorem run_findKey {C : Ctx} (hC : C.Tab) (w : World) {t : TypeId} {k : AV} {x : Value} (hk : VRel i k x) (hkk : keyKind C t k = true) {l : List (AV × AV)} {ents : List MapEntry} {r : Option (Nat × AV)}
    (hm : MRel i l ents) (h : findU k l 0 = some r) :
    (r = none ∧ (Instr.findKey t x ents).run C.P w = .ok none w) ∨ ∃ n v y, r = some (n, v) ∧ (Instr.findKey t x ents).run C.P w = .ok (some (n, y)) w ∧ VRel i v y := by
  have key := keyKind_und hkk
  obtain ⟨d, hu, hd⟩ : ∃ d, C.und t = some d ∧ ((∃ ik jk n, d = .int ik ∧ k = .int jk n) ∨ (∃ s, d = .string ∧ k = .str s) ∨ (∃ b, d = .bool ∧ k = .bool b)) := by
    rcases key with ⟨ik, jk, n, hu, e⟩ | ⟨s, hu, e⟩ | ⟨b, hu, e⟩
    · exact ⟨_, hu, .inl ⟨_, _, _, rfl, e⟩⟩
    · exact ⟨_, hu, .inr (.inl ⟨_, rfl, e⟩)⟩
    · exact ⟨_, hu, .inr (.inr ⟨_, rfl, e⟩)⟩
  have hru := run_underlying (und_ok hC hu) w
  rcases findNow_ok hk hd hm h with ⟨rfl, h2⟩ | ⟨n, v, y, rfl, h2, h3⟩
  · exact .inl ⟨rfl, by simp only [Instr.findKey, Sem.run_bind, hru, Result.andThen_ok, h2, Sem.run_pure]⟩
  · exact .inr ⟨n, v, y, rfl, by simp only [Instr.findKey, Sem.run_bind, hru, Result.andThen_ok, h2, Sem.run_pure], h3⟩
theorem run_checkKey {C : Ctx} (hC : C.Tab) (w : World) {t : TypeId} {k : AV} {x : Value} (hk : VRel i k x) (hkk : keyKind C t k = true) (b : Bool) (d : Nat) : (Instr.checkKey b (d + 1) t x).run C.P w = .ok () w := by
  rcases keyKind_und hkk with ⟨ik, jk, n, hu, rfl⟩ | ⟨s, hu, rfl⟩ | ⟨c, hu, rfl⟩ <;> simp only [VRel] at hk
  · subst hk; simp [Instr.checkKey, run_underlying (und_ok hC hu)]
  · obtain ⟨u, rfl, _⟩ := hk; simp [Instr.checkKey, run_underlying (und_ok hC hu)]
  · subst hk; simp [Instr.checkKey, run_underlying (und_ok hC hu)]

/-- A map's entries, in the world. -/
theorem Objs.entries (R : Objs S i h.get w) {b : Nat} {c : Nat × Nat} (hc : i b = some c) {k : AV} {r : Option AV} (hl : lookIn h k (.map b) = some r) :
    ∃ ents clock l q, w.heap[c.1]? = some (.map ents clock) ∧ MRel i l ents.toList ∧ findU k l 0 = some q ∧ q.map (·.2) = r := by
  simp only [lookIn] at hl
  split at hl
  · rename_i es clock hb
    obtain ⟨c', hc', ho⟩ := R b _ hb rfl
    rw [hc] at hc'; cases hc'
    obtain ⟨ents, h1, h2, h3, h4, h5⟩ := ho
    have hpl := findKey_plain (k := k) (es := es) (j := 0)
    split at hl
    · rename_i n v t hf
      simp only [Option.some.injEq] at hl; subst hl
      rw [hf] at hpl
      exact ⟨ents, clock, _, some (n, v), h1, h2, hpl.symm, rfl⟩
    · rename_i hf
      simp only [Option.some.injEq] at hl; subst hl
      rw [hf] at hpl
      exact ⟨ents, clock, _, none, h1, h2, hpl.symm, rfl⟩
    · exact absurd hl (by simp)
  · rename_i es clock hb
    obtain ⟨c', hc', ho⟩ := R b _ hb rfl
    rw [hc] at hc'; cases hc'
    obtain ⟨ents, l, h1, h2, h3, h4, h5⟩ := ho
    split at hl
    · rename_i n v hf
      simp only [Option.some.injEq] at hl; subst hl
      obtain ⟨r', g1, g2⟩ := findU_perm h2.symm h4 hf
      exact ⟨ents, clock, l, r', h1, h3, g1, g2⟩
    · rename_i hf
      simp only [Option.some.injEq] at hl; subst hl
      obtain ⟨r', g1, g2⟩ := findU_perm h2.symm h4 hf
      exact ⟨ents, clock, l, r', h1, h3, g1, g2⟩
    · exact absurd hl (by simp)
  · exact absurd hl (by simp)

end
end Go.Ev
namespace Go.Ev

section
variable {S : String → Code → Prop} {i : Emb} {h : Heap} {w : World} {C : Ctx} (hC : C.Tab)
include hC

theorem lookup_ok (R : Objs S i h.get w) {t : TypeId} {ok : Bool} {m k : AV} {x y : Value} {v : AV} (gm : VRel i m x) (gk : VRel i k y)
    (hl : lookupAV C h ok (some m) (some k) (C.und t) = some v) : ∃ z, (Instr.lookup t x y ok).run C.P w = .ok z w ∧ VRel i v z := by
  unfold lookupAV at hl
  split at hl
  · rename_i kt el hd
    have hu := und_ok hC hd
    simp only at hl
    cases hkk : keyKind C kt k with
    | false => simp [hkk] at hl
    | true =>
      simp only [hkk, cond_true] at hl
      have hck := fun b => run_checkKey hC w gk hkk b 9999
      have hck' : ∀ b, (Instr.checkKey b 10000 kt y).run C.P w = .ok () w := hck
      -- nothing found
      have notFound : ∀ z, notAV ok (zero C el) = some z → ∃ zz, (zeroValue el).run C.P w = .ok zz w ∧ VRel i z (if ok = true then .tuple #[zz, .bool false] else zz) := by
        intro z hz
        unfold notAV at hz
        split at hz
        · rename_i zv hzv
          simp only [Option.some.injEq] at hz; subst hz
          obtain ⟨zz, hzz, gz⟩ := run_zero hC w hzv
          refine ⟨zz, hzz, ?_⟩
          cases ok
          · simpa using gz i
          · simp only [cond_true, if_true, VRel]; exact ⟨[zz, .bool false], by simp [VRels, VRel, gz i], rfl⟩
        · exact absurd hz (by simp)
      cases m <;> simp only [lookIn] at hl <;> try (simp [foundAV] at hl; done)
      case nilmap =>
        simp only [VRel] at gm; subst gm
        simp only [foundAV] at hl
        obtain ⟨u, h1, h2⟩ := notFound v hl
        refine ⟨_, ?_, h2⟩
        have hfk : (Instr.findKey kt y ([] : List MapEntry)).run C.P w = .ok none w := by
          rcases run_findKey hC w gk hkk (l := []) (ents := []) (r := none) (by simp [MRel]) rfl with ⟨_, e⟩ | ⟨_, _, _, e, _⟩
          · exact e
          · cases e
        simp only [Instr.lookup, Sem.run_bind, run_underlying hu, Result.andThen_ok, Sem.run_pure, hck', hfk, h1]
      case map b =>
        simp only [VRel] at gm
        obtain ⟨c, hc, rfl⟩ := gm
        have hl' : foundAV C el ok (lookIn h k (.map b)) = some v := hl
        cases hlk : lookIn h k (.map b) with
        | none => rw [hlk] at hl'; simp [foundAV] at hl'
        | some r =>
          rw [hlk] at hl'
          obtain ⟨ents, clock, l, q, hw, hm, hf, hq⟩ := R.entries hc hlk
          have hg : (getObj c.1).run C.P w = .ok (.map ents clock) w := by simp only [getObj, Sem.run, hw]
          rcases run_findKey hC w gk hkk hm hf with ⟨rfl, e⟩ | ⟨n, v', z, rfl, e, gz⟩
          · simp only [Option.map_none] at hq; subst hq
            simp only [foundAV] at hl'
            obtain ⟨u, h1, h2⟩ := notFound v hl'
            refine ⟨_, ?_, h2⟩
            simp only [Instr.lookup, Sem.run_bind, run_underlying hu, Result.andThen_ok, Sem.run_pure, hck', hg, e, h1]
          · simp only [Option.map_some] at hq; subst hq
            simp only [foundAV, gotAV, Option.some.injEq] at hl'
            subst hl'
            refine ⟨if ok then .tuple #[z, .bool true] else z, ?_, ?_⟩
            · simp only [Instr.lookup, Sem.run_bind, run_underlying hu, Result.andThen_ok, Sem.run_pure, hck', hg, e]
            · cases ok
              · simpa using gz
              · simp only [cond_true, if_true, VRel]; exact ⟨[z, .bool true], by simp [VRels, VRel, gz], rfl⟩
  · exact absurd hl (by simp)

omit hC in
theorem MRel.length {i : Emb} : ∀ {l : List (AV × AV)} {m : List MapEntry}, MRel i l m → l.length = m.length
  | [], [], _ => rfl
  | (_, _) :: l, _ :: m, g => by simp only [MRel] at g; simp [MRel.length g.2.2]
  | [], _ :: _, g => by simp [MRel] at g
  | (_, _) :: _, [], g => by simp [MRel] at g

theorem len_ok (R : Objs S i h.get w) {ts : List TypeId} {l : List AV} {us : List Value} {ty : TypeId} {v : AV} (gl : VRels i l us) (hl : lenAV h (typeArg C ts) (some l) = some v) :
    ∃ z, (Builtin.len_ ts.toArray ty us.toArray).run C.P w = .ok z w ∧ VRel i v z := by
  cases ts with
  | nil => simp [typeArg, lenAV] at hl
  | cons t ts =>
    simp only [typeArg] at hl
    cases us with
    | nil => cases l <;> simp [VRels] at gl; unfold lenAV at hl; split at hl <;> simp_all
    | cons x us =>
      cases l with
      | nil => simp [VRels] at gl
      | cons a l =>
        simp only [VRels] at gl
        have ga := gl.1
        unfold lenAV at hl
        split at hl
        case h_8 => exact absurd hl (by simp)
        case h_1 n el _ _ hd heq =>
          have hu := und_ok hC hd
          simp only [Option.some.injEq] at hl
          subst hl
          exact ⟨goInt n, by simp [Builtin.len_, run_underlying hu], by simp [VRel, goInt]⟩
        case h_2 s l' hd heq =>
          have hu := und_ok hC hd
          simp only [Option.some.injEq, List.cons.injEq] at heq hl
          subst hl; rw [heq.1] at ga
          simp only [VRel] at ga
          obtain ⟨t', rfl, ht⟩ := ga
          refine ⟨goInt t'.size, by simp [Builtin.len_, run_underlying hu], ?_⟩
          simp only [VRel, goInt, ← ht, List.length_map, Array.length_toList]; rfl
        case h_3 el l' hd heq =>
          have hu := und_ok hC hd
          simp only [Option.some.injEq, List.cons.injEq] at heq hl
          subst hl; rw [heq.1] at ga
          simp only [VRel] at ga; subst ga
          exact ⟨goInt 0, by simp [Builtin.len_, run_underlying hu], by simp [VRel, goInt]⟩
        case h_4 el l' hd heq =>
          have hu := und_ok hC hd
          simp only [Option.some.injEq, List.cons.injEq] at heq hl
          subst hl; rw [heq.1] at ga
          simp only [VRel] at ga
          obtain ⟨p, m, rfl⟩ := ga
          exact ⟨goInt 0, by simp [Builtin.len_, run_underlying hu], by simp [VRel, goInt]⟩
        case h_5 el b o n cp l' hd heq =>
          have hu := und_ok hC hd
          simp only [Option.some.injEq, List.cons.injEq] at heq hl
          subst hl; rw [heq.1] at ga
          simp only [VRel] at ga
          obtain ⟨c, m, hc, rfl, _⟩ := ga
          exact ⟨goInt n, by simp [Builtin.len_, run_underlying hu], by simp [VRel, goInt]⟩
        case h_6 k el l' hd heq =>
          have hu := und_ok hC hd
          simp only [Option.some.injEq, List.cons.injEq] at heq hl
          subst hl; rw [heq.1] at ga
          simp only [VRel] at ga; subst ga
          exact ⟨goInt 0, by simp [Builtin.len_, run_underlying hu], by simp [VRel, goInt]⟩
        case h_7 k el b l' hd heq =>
          have hu := und_ok hC hd
          simp only [Option.some.injEq, List.cons.injEq] at heq
          rw [heq.1] at ga
          simp only [VRel] at ga
          obtain ⟨c, hc, rfl⟩ := ga
          unfold mapLen at hl
          split at hl <;> simp only [Option.some.injEq, reduceCtorEq] at hl
          · rename_i es clock hb
            subst hl
            obtain ⟨c', hc', ho⟩ := R b _ hb rfl
            rw [hc] at hc'; cases hc'
            obtain ⟨ents, h1, h2, _⟩ := ho
            have hg : (getObj c.1).run C.P w = .ok (.map ents clock) w := by simp only [getObj, Sem.run, h1]
            refine ⟨goInt ents.size, by simp [Builtin.len_, run_underlying hu, hg], ?_⟩
            have := MRel.length h2
            simp only [plainEs, List.length_map, Array.length_toList] at this
            simp [VRel, goInt, this]
          · rename_i es clock hb
            subst hl
            obtain ⟨c', hc', ho⟩ := R b _ hb rfl
            rw [hc] at hc'; cases hc'
            obtain ⟨ents, l2, h1, h2, h3, _⟩ := ho
            have hg : (getObj c.1).run C.P w = .ok (.map ents clock) w := by simp only [getObj, Sem.run, h1]
            refine ⟨goInt ents.size, by simp [Builtin.len_, run_underlying hu, hg], ?_⟩
            have := MRel.length h3
            have h4 := h2.length_eq
            simp only [Array.length_toList] at this
            simp [VRel, goInt, ← this, h4]

omit hC in
theorem bytes_run {P : Program} (w : World) (f : Value → ByteArray → Sem (ForInStep ByteArray)) (hf : ∀ n r, f (.int .u8 n) r = pure (ForInStep.yield (r.push (UInt8.ofNat n.toNat)))) :
    ∀ {l : List AV} {xs : List Value} {s : List Nat} (acc : ByteArray), VRels i l xs → bytesOf l = some s →
    ∃ t : ByteArray, (forIn xs acc f : Sem ByteArray).run P w = .ok t w ∧ t.data.toList.map UInt8.toNat = acc.data.toList.map UInt8.toNat ++ s
  | [], [], s, acc, _, h => by
    simp only [bytesOf, Option.some.injEq] at h; subst h
    exact ⟨acc, by simp, by simp⟩
  | a :: l, x :: xs, s, acc, g, h => by
    simp only [VRels] at g
    unfold bytesOf at h
    split at h
    · rename_i heq; cases heq
    · rename_i n l' heq
      simp only [List.cons.injEq] at heq
      obtain ⟨rfl, rfl⟩ := heq
      split at h
      · rename_i r hr
        rw [cond_blt] at h
        split at h
        · rename_i hlt
          simp only [Option.some.injEq] at h; subst h
          have gx := g.1
          simp only [VRel] at gx; subst gx
          obtain ⟨t, h1, h2⟩ := bytes_run w f hf (acc.push (UInt8.ofNat n)) g.2 hr
          refine ⟨t, ?_, ?_⟩
          · simp only [List.forIn_cons, hf, Sem.run_bind, Sem.run_pure, Result.andThen_ok]
            exact h1
          · rw [h2]
            simp [ByteArray.data_push, Nat.mod_eq_of_lt hlt]
        · exact absurd h (by simp)
      · exact absurd h (by simp)
    · exact absurd h (by simp)
  | [], _ :: _, _, _, g, _ => by simp [VRels] at g
  | _ :: _, [], _, _, g, _ => by simp [VRels] at g

theorem text_ok (R : Objs S i h.get w) {src dst el : TypeId} {x v : AV} {u : Value} (hs : C.und src = some (.slice el)) (hd : C.und dst = some .string) (gx : VRel i x u)
    (ht : textAV C h el (some x) = some v) : ∃ z, (convert src dst u).run C.P w = .ok z w ∧ VRel i v z := by
  have us := und_ok hC hs
  have ud := und_ok hC hd
  unfold textAV at ht
  split at ht
  · rename_i he heq
    simp only [Option.some.injEq] at ht heq; subst ht heq
    simp only [VRel] at gx; subst gx
    refine ⟨.string .empty, by simp [convert, run_underlying us, run_underlying ud, run_underlying (und_ok hC he), Conv.bytesToString], ?_⟩
    simp only [VRel]; exact ⟨_, rfl, rfl⟩
  · rename_i he heq
    simp only [Option.some.injEq] at ht heq; subst ht heq
    simp only [VRel] at gx
    obtain ⟨p, m, rfl⟩ := gx
    refine ⟨.string .empty, ?_, ?_⟩
    · simp [convert, run_underlying us, run_underlying ud, run_underlying (und_ok hC he), Conv.bytesToString, loadCells, loadCellsFrom]
    · simp only [VRel]; exact ⟨_, rfl, rfl⟩
  · rename_i b o n cp he heq
    simp only [Option.some.injEq] at heq; subst heq
    simp only [VRel] at gx
    obtain ⟨c, m, hc, rfl, _⟩ := gx
    unfold strOf at ht
    split at ht
    · rename_i l hrow
      split at ht
      · rename_i s hs'
        simp only [Option.some.injEq] at ht; subst ht
        unfold rowAt at hrow
        split at hrow
        · rename_i ob hb
          split at hrow
          · rename_i cs hr
            obtain ⟨c', arr, el', fz, hc', hw, hsz, hle, hv⟩ := R.row hb hr
            rw [hc] at hc'; cases hc'
            obtain ⟨h1, h2, h3⟩ := cut_ok hrow hv
            have hlen : (((arr.toList.take cs.length).drop o).take n).length = n := by rw [← h1.length]; exact h3
            have hcells : ∀ j v, (((arr.toList.take cs.length).drop o).take n)[j]? = some v → w.cell? ((⟨c.1, o, none⟩ : Addr).add j) = some v := by
              intro j v hj
              have hjn : j < n := by
                have := (List.getElem?_eq_some_iff.1 hj).1; omega
              rw [Addr.add_mid, cell_at hw]
              rw [List.getElem?_take_of_lt hjn, List.getElem?_drop] at hj
              have hlt : o + j < cs.length := by
                have := (List.getElem?_eq_some_iff.1 hj).1
                simp at this; omega
              rw [List.getElem?_take_of_lt hlt] at hj
              simpa using hj
            have hrun := run_loadCells_list (P := C.P) w ⟨c.1, o, none⟩ _ hcells
            rw [hlen] at hrun
            have key := fun f hf => bytes_run (P := C.P) w f hf .empty h1 hs'
            have shape : ∀ f : Value → ByteArray → Sem (ForInStep ByteArray), (∀ n r, f (.int .u8 n) r = pure (ForInStep.yield (r.push (UInt8.ofNat n.toNat)))) →
                ∃ z, ((forIn (((arr.toList.take cs.length).drop o).take n).toArray ByteArray.empty f : Sem ByteArray).run C.P w).andThen (fun a w' => .ok (.string a) w') = .ok z w ∧ VRel i (.str s) z := by
              intro f hf
              obtain ⟨t, g1, g2⟩ := key f hf
              refine ⟨.string t, ?_, ?_⟩
              · rw [← Array.forIn_toList, List.toList_toArray, g1]; rfl
              · simp only [VRel]; exact ⟨_, rfl, by rw [g2]; simp⟩
            simp only [convert, Sem.run_bind, run_underlying us, run_underlying ud, Result.andThen_ok, run_underlying (und_ok hC he), Conv.bytesToString, hrun, Sem.run_pure]
            exact shape _ (fun n r => rfl)
          · exact absurd hrow (by simp)
        · exact absurd hrow (by simp)
      · exact absurd ht (by simp)
    · exact absurd ht (by simp)
  · exact absurd ht (by simp)

/-- An operation that reads memory. -/
theorem rd_ok (R : Objs S i h.get w) {e : Env} {a : Act} (g : ERel i e a.tmps) {o : Oper} {gg : Heap} {v : AV} (hv : opEval C e h gg o.op = .rd v) :
    ∃ x, (execOp a.eval o).run C.P w = .ok (.value x) w ∧ VRel i v x := by
  obtain ⟨dst, op, type, pos, after, guard⟩ := o
  simp only at hv
  have hk := kind_rd hv
  have wrap : ∀ (m : Sem Value), (∃ x, m.run C.P w = .ok x w ∧ VRel i v x) → ∃ x, ((do pure (.value (← m))) : Sem Next).run C.P w = .ok (.value x) w ∧ VRel i v x := by
    rintro m ⟨x, hx, hv⟩
    exact ⟨x, by simp only [Sem.run_bind, hx, Result.andThen_ok, Sem.run_pure], hv⟩
  have rdSome : ∀ {x : Option AV}, asRd x = .rd v → x = some v := by
    intro x hx; cases x <;> simp [asRd] at hx; rw [hx]
  cases op <;> simp only [opEval] at hv <;> simp only [execOp]
  case load t x =>
    have hl := rdSome hv
    unfold loadOf at hl
    split at hl
    · rename_i b o' hx
      have gx := opd_ok g hx
      simp only [VRel] at gx
      obtain ⟨c, hc, e'⟩ := gx
      rw [e']
      exact wrap _ (load_ok hC R hc hl)
    · exact absurd hl (by simp)
  case lookup t x k ok =>
    have hl := rdSome hv
    cases hx : opd e x with
    | none => rw [hx] at hl; unfold lookupAV at hl; split at hl <;> simp at hl
    | some m =>
      cases hkk : opd e k with
      | none => rw [hkk] at hl; unfold lookupAV at hl; split at hl <;> simp at hl
      | some kk => rw [hx, hkk] at hl; exact wrap _ (lookup_ok hC R (opd_ok g hx) (opd_ok g hkk) hl)
  case convert src dst x =>
    unfold convertR at hv
    split at hv
    · rename_i el hs hd
      have hl := rdSome hv
      cases hx : opd e x with
      | none => rw [hx] at hl; unfold textAV at hl; split at hl <;> simp_all
      | some u => rw [hx] at hl; exact wrap _ (text_ok hC R hs hd (opd_ok g hx) hl)
    · rename_i el _ _; have := is_sameSliceR C gg src dst el (opd e x); rw [hv] at this; simp [OpR.is, OpR.tag] at this
    · rename_i el _ _; have := is_bytesR C el (opd e x); rw [hv] at this; simp [OpR.is, OpR.tag] at this
    · have := is_asVal (convAV (C.und dst) (opd e x)); rw [hv] at this; simp [OpR.is, OpR.tag] at this
    · cases hv
  case call c =>
    obtain ⟨callee, args, argTypes⟩ := c
    cases callee with
    | value f => exfalso; simp [kindOf] at hk
    | invoke r m => exfalso; simp [kindOf] at hk
    | builtin b =>
      cases b
      case len =>
        have hl : lenAV h (typeArg C argTypes.toList) (opds e args.toList) = some v := rdSome hv
        cases hx : opds e args.toList with
        | none => rw [hx] at hl; unfold lenAV at hl; split at hl <;> simp_all
        | some l =>
          rw [hx] at hl
          have gl := opds_ok g hx
          obtain ⟨z, hz, gz⟩ := len_ok hC R (ty := type) gl hl
          refine ⟨z, ?_, gz⟩
          have e1 : (args.toList.map a.eval).toArray = args.map a.eval := (amap _ _).symm
          have e2 : argTypes.toList.toArray = argTypes := by simp
          rw [e1, e2] at hz
          simp only [resolve, Sem.run_bind, Sem.run_pure, Result.andThen_ok, invoke, builtin, hz]
      all_goals (exfalso; simp [kindOf] at hk; done)
  all_goals
    first
      | (cases hv; done)
      | (exfalso; simp [kindOf] at hk; done)

end
end Go.Ev
