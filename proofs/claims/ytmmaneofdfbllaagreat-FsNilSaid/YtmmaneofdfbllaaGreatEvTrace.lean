/-
  EvTrace: the ways through a region that draws. No condition.
-/
import Derived.Test.YtmmaneofdfbllaaGreatEvDraw
set_option linter.unusedVariables false
set_option linter.unusedSimpArgs false
set_option linter.unusedSectionVars false
namespace Go.Ev
noncomputable section

/-- A place of the way. -/
structure Rc where
  o : Oper
  e : Env
  s : Heap
  g : Heap
  k : Nat
  v : AV
  nx : Heap
  ob : Option AObj
  heavy : Bool

def envL (D : Nat → Bool) : Nat → List Rc → Env → Env
  | _, [], e => e
  | k, r :: rs, e => envL D (k + 1) rs (if D k then e.put r.o.dst r.v else e)
theorem envL_append (D : Nat → Bool) : ∀ (k : Nat) (rs : List Rc) (r : Rc) (e : Env), envL D k (rs ++ [r]) e = if D (k + rs.length) then (envL D k rs e).put r.o.dst r.v else envL D k rs e
  | k, [], r, e => by simp [envL]
  | k, q :: rs, r, e => by
    simp only [List.cons_append, envL, List.length_cons]
    rw [envL_append D (k + 1) rs r, show k + 1 + rs.length = k + (rs.length + 1) by omega]

def cntH : List Rc → Nat
  | [] => 0
  | r :: rs => (if r.heavy then 1 else 0) + cntH rs
theorem cntH_append : ∀ (l : List Rc) (r : Rc), cntH (l ++ [r]) = cntH l + if r.heavy then 1 else 0
  | [], r => by simp [cntH]
  | q :: l, r => by simp only [List.cons_append, cntH]; rw [cntH_append l r]; omega

mutual
theorem sameAV_eq : ∀ (a b : AV), sameAV a b = true → a = b
  | .bool a, b, h => by cases b <;> simp [sameAV] at h; subst h; rfl
  | .int k a, b, h => by
    cases b <;> simp only [sameAV, Bool.and_eq_true] at h <;> first | (cases h; done) | skip
    obtain ⟨h1, h2⟩ := h
    rw [beq_nat, decide_eq_true_eq] at h1
    rw [ieq_eq, beq_iff_eq] at h2
    rw [kidx_inj h1, h2]
  | .str s, b, h => by
    cases b <;> simp only [sameAV] at h <;> first | (cases h; done) | skip
    rw [listEq_eq, decide_eq_true_eq] at h; rw [h]
  | .nilptr, b, h => by cases b <;> simp [sameAV] at h; rfl
  | .ptr a o, b, h => by
    cases b <;> simp only [sameAV, Bool.and_eq_true, beq_nat, decide_eq_true_eq] at h <;> first | (cases h; done) | skip
    rw [h.1, h.2]
  | .nilsl, b, h => by cases b <;> simp [sameAV] at h; rfl
  | .sl a o n c, b, h => by
    cases b <;> simp only [sameAV, Bool.and_eq_true, beq_nat, decide_eq_true_eq] at h <;> first | (cases h; done) | skip
    rename_i d
    obtain ⟨⟨⟨rfl, rfl⟩, rfl⟩, h4⟩ := h
    cases c <;> cases d <;> simp only [sameCap, beq_nat, decide_eq_true_eq] at h4 <;> first | (cases h4; done) | (rw [h4])
  | .emp, b, h => by cases b <;> simp [sameAV] at h
  | .nilmap, b, h => by cases b <;> simp [sameAV] at h; rfl
  | .map a, b, h => by
    cases b <;> simp only [sameAV, beq_nat, decide_eq_true_eq] at h <;> first | (cases h; done) | skip
    rw [h]
  | .nilfn, b, h => by cases b <;> simp [sameAV] at h; rfl
  | .fn f l m, b, h => by
    cases b <;> simp only [sameAV, Bool.and_eq_true] at h <;> first | (cases h; done) | skip
    obtain ⟨⟨h1, h2⟩, h3⟩ := h
    rw [show f = _ from Nat.eq_of_beq_eq_true h1, sameAVs_eq _ _ h2, sameAVs_eq _ _ h3]
  | .yield _, b, h => by cases b <;> simp [sameAV] at h
  | .agg l, b, h => by
    cases b <;> simp only [sameAV] at h <;> first | (cases h; done) | skip
    rw [sameAVs_eq _ _ h]
  | .tup l, b, h => by
    cases b <;> simp only [sameAV] at h <;> first | (cases h; done) | skip
    rw [sameAVs_eq _ _ h]
  | .unk, b, h => by cases b <;> simp [sameAV] at h
theorem sameAVs_eq : ∀ (l m : List AV), sameAVs l m = true → l = m
  | [], m, h => by cases m <;> simp [sameAVs] at h; rfl
  | a :: l, m, h => by
    cases m with
    | nil => simp [sameAVs] at h
    | cons b m =>
      simp only [sameAVs, Bool.and_eq_true] at h
      rw [sameAV_eq a b h.1, sameAVs_eq l m h.2]
end

section
variable (C : Ctx) (S : String → Code → Prop) (all : List Oper) (e₀ : Env)

/-- What is known ahead of a place. -/
structure Pre (pre : List Rc) (sts : List Heap) (e : Env) (s g : Heap) (k : Nat) : Prop where
  env : e = envL (fun _ => true) 0 pre e₀
  cnt : k = cntH pre
  wit : ∃ (F₂ : Fr) (i₂ : Emb) (a₂ : Act) (w₂ : World), Rel S F₂ i₂ g.get g.next w₂ ∧ ERel i₂ e a₂.tmps
  stl : sts.length = k + 1
  stk : sts[k]? = some s
  mono : ∀ s' ∈ sts, s'.next ≤ s.next
  sfresh : ∀ b, s.next ≤ b → s.get b = none
  stf : ∀ s' ∈ sts, ∀ b, s'.next ≤ b → s'.get b = none
  g1 : ∀ b o, s.get b = some o → g.get b = some o
  g2 : ∀ b, g.get b ≠ none → s.get b ≠ none ∨ ∃ r' ∈ pre, r'.k = k ∧ r'.ob.isSome = true ∧ r'.g.next = b
  g3 : ∀ r' ∈ pre, r'.k = k → ∀ ob, r'.ob = some ob → g.get r'.g.next = some ob
  g4 : s.next ≤ g.next
  nx : ∀ r' ∈ pre, r'.nx.next ≤ g.next
  kle : ∀ r' ∈ pre, r'.k ≤ k

/-- What a place does. -/
inductive Does (sts : List Heap) (lo hi : Nat) (r : Rc) : Prop where
  | skip : r.heavy = false → r.ob = none → r.nx = r.g → wanted all r.e r.o = some false → r.v = .tup [] → Does sts lo hi r
  | val : r.heavy = false → r.ob = none → r.nx = r.g → wanted all r.e r.o = some true → opEval C r.e r.s r.g r.o.op = .val r.v → Does sts lo hi r
  | rd : r.heavy = false → r.ob = none → r.nx = r.g → wanted all r.e r.o = some true → opEval C r.e r.s r.g r.o.op = .rd r.v →
      (lo < hi → ∀ j s', lo ≤ j → j ≤ hi → sts[j]? = some s' → opEval C r.e s' s' r.o.op = .rd r.v) → Does sts lo hi r
  | new (ob : AObj) (mk : Nat → AV) : r.heavy = false → r.ob = some ob → r.nx = r.g.add ob → wanted all r.e r.o = some true → opEval C r.e r.s r.g r.o.op = .new ob mk → r.v = mk r.g.next → Does sts lo hi r
  | noHeavy : r.heavy = true → r.ob = none → r.nx = r.g → wanted all r.e r.o = some false → r.v = .tup [] → Does sts lo hi r
  | heavy : r.heavy = true → r.ob = none → r.g.next ≤ r.nx.next → wanted all r.e r.o = some true → HeavyOk C S r.e r.g r.o r.v r.nx → Does sts lo hi r
end

section
variable {C : Ctx} {S : String → Code → Prop} {all : List Oper} {e₀ : Env}

theorem readsAt_mem {op : Op} {e : Env} {v : AV} : ∀ {l : List Heap}, readsAt C op e v l = true → ∀ h ∈ l, opEval C e h h op = .rd v
  | [], _, _, hx => by simp at hx
  | h :: l, hr, x, hx => by
    simp only [readsAt, Bool.and_eq_true] at hr
    rcases List.mem_cons.1 hx with rfl | hx
    · have h1 := hr.1
      split at h1
      · rename_i u hu; rw [hu, sameAV_eq _ _ h1]
      · cases h1
    · exact readsAt_mem hr.2 x hx
theorem readsOk_mem {sts : List Heap} : ∀ {rds : List (Op × Env × Nat × Nat × AV)}, readsOk C sts rds = true → ∀ op e lo hi v, (op, e, lo, hi, v) ∈ rds → ∀ j s', lo ≤ j → j ≤ hi → sts[j]? = some s' → opEval C e s' s' op = .rd v
  | [], _, _, _, _, _, _, hx, _, _, _, _, _ => by simp at hx
  | (op', e', lo', hi', v') :: l, hr, op, e, lo, hi, v, hx, j, s', h1, h2, h3 => by
    simp only [readsOk, Bool.and_eq_true] at hr
    rcases List.mem_cons.1 hx with hx | hx
    · cases hx
      refine readsAt_mem hr.1 s' ?_
      unfold heapsAt
      have : ((sts.drop lo').take (hi' + 1 - lo'))[j - lo']? = some s' := by
        rw [List.getElem?_take_of_lt (by omega), List.getElem?_drop, show lo' + (j - lo') = j by omega]
        exact h3
      exact List.mem_of_getElem? this
    · exact readsOk_mem hr.2 op e lo hi v hx j s' h1 h2 h3

/-! ### A step of the text's order, in a world that bears it -/

theorem wpIn_some {P : Program} {o : Oper} {r : Option Nat} {a : Act} {w : World} {next : Act → World → Prop} (h : o.wpIn (fc r) 0 P a w next (fun _ _ _ => False)) : ∃ a' w', next a' w' := by
  obtain ⟨_, h⟩ := h
  generalize (o.semAt (fc r).round a.eval).run P w = res at h
  cases res with
  | halt x w' => cases x <;> simp only [Oper.uponIn] at h <;> exact h.elim
  | ok x w' =>
    cases x <;> simp only [Oper.uponIn] at h <;> try (exact h.elim)
    case value v => exact ⟨_, _, h⟩
    case skip => exact ⟨_, _, h⟩
    case defer d => exact ⟨_, _, h⟩
    case enter f args =>
      obtain ⟨e, w'', fr, hR, _⟩ := h.2.2 [] (fc_room _ _)
      cases e with
      | returned v => exact ⟨_, _, hR⟩
      | panicked c => exact hR.elim
      | outgrown => obtain ⟨_, _, hx⟩ := hR; exact hx.elim
    case row row args =>
      obtain ⟨v, w'', hR, _⟩ := h.2 default [] (fc_room _ _)
      exact ⟨_, _, hR⟩
    case round l f tmps assign body =>
      obtain ⟨e, w'', hR, _⟩ := h.2.2 default [] (fc_room _ _)
      cases e with
      | returned v => exact ⟨_, _, hR⟩
      | panicked c => exact hR.elim
      | outgrown => obtain ⟨_, _, hx⟩ := hR; exact hx.elim

/-- A world that bears a heap and an environment. -/
def Borne (S : String → Code → Prop) (e : Env) (g : Heap) : Prop := ∃ (F₂ : Fr) (i₂ : Emb) (a₂ : Act) (w₂ : World), Rel S F₂ i₂ g.get g.next w₂ ∧ ERel i₂ e a₂.tmps
theorem Borne.undef {e : Env} {g : Heap} (h : Borne S e g) (d : Option Tmp) : Borne S (e.put d (.tup [])) g := by
  obtain ⟨F, i, a, w, R, gE⟩ := h
  have gu : VRel i (.tup []) Go.undef := by simp only [VRel]; exact ⟨[], by simp [VRels], rfl⟩
  exact ⟨F, i, a.put d Go.undef, w, R, gE.put gu d⟩
theorem Borne.val {e : Env} {s g : Heap} (hC : C.Tab) (h : Borne S e g) {o : Oper} {v : AV} (hv : opEval C e s g o.op = .val v) : Borne S (e.put o.dst v) g := by
  obtain ⟨F, i, a, w, R, gE⟩ := h
  obtain ⟨x, _, gv⟩ := val_ok hC w gE hv
  exact ⟨F, i, a.put o.dst x, w, R, gE.put gv _⟩
theorem Borne.rd {e : Env} {s g : Heap} (hC : C.Tab) (h : Borne S e g) (hsg : ∀ b o, s.get b = some o → g.get b = some o) {o : Oper} {v : AV} (hv : opEval C e s g o.op = .rd v) : Borne S (e.put o.dst v) g := by
  obtain ⟨F, i, a, w, R, gE⟩ := h
  have Ro : Objs S i s.get w := fun b ob hb hl => R.objs b ob (hsg b ob hb) hl
  obtain ⟨x, _, gv⟩ := rd_ok hC Ro gE hv
  exact ⟨F, i, a.put o.dst x, w, R, gE.put gv _⟩
theorem Borne.new {e : Env} {s g : Heap} (hC : C.Tab) (h : Borne S e g) {o : Oper} {ob : AObj} {mk : Nat → AV} (hv : opEval C e s g o.op = .new ob mk) : Borne S (e.put o.dst (mk g.next)) (g.add ob) := by
  obtain ⟨F, i, a, w, R, gE⟩ := h
  obtain ⟨m, hm, x, w', O, tot, h1, h2, h3, h4, h5, h6, h7⟩ := new_ok (S := S) (w := w) hC gE hv
  have hfresh := R.fresh g.next (Nat.le_refl _)
  obtain ⟨gv, gO⟩ := h7 (i.upd g.next (w.heap.size, tot)) g.next (Emb.le_upd hfresh.1 _) (Emb.upd_same _ _ _)
  refine ⟨F, _, a.put o.dst x, w', ?_, (gE.mono (Emb.le_upd hfresh.1 _)).put gv _⟩
  rw [Heap.get_add']
  exact R.add hfresh.1 hfresh.2 (Nat.lt_succ_self _) (Nat.le_succ _) h2 h3 h4 h5 h6 gO
theorem Borne.heavy {e : Env} {g g' : Heap} (h : Borne S e g) {o : Oper} {v : AV} (hv : HeavyOk C S e g o v g') : Borne S (e.put o.dst v) g' := by
  obtain ⟨F, i, a, w, R, gE⟩ := h
  obtain ⟨a', w', j, x, _, hj, gv, R', rfl⟩ := wpIn_some (next := fun a' w' => ∃ (j : Emb) (x : Value) (_ : True), i.Le j ∧ VRel j v x ∧ Rel S F j g'.get g'.next w' ∧ a' = a.put o.dst x)
    (hv e rfl (fun _ _ => rfl) F i none a w R gE _ _ fun j x w' hj gv R' => ⟨j, x, trivial, hj, gv, R', rfl⟩)
  exact ⟨F, j, _, w', R', (gE.mono hj).put gv _⟩

/-! ### What is known ahead of the next place -/
section
variable {pre : List Rc} {sts : List Heap} {r : Rc}

theorem Pre.light (h : Pre S e₀ pre sts r.e r.s r.g r.k) (h1 : r.heavy = false) (h2 : r.ob = none) (h3 : r.nx = r.g) (hw : Borne S (r.e.put r.o.dst r.v) r.g) :
    Pre S e₀ (pre ++ [r]) sts (r.e.put r.o.dst r.v) r.s r.g r.k := by
  refine { env := ?_, cnt := ?_, wit := hw, stl := h.stl, stk := h.stk, mono := h.mono, sfresh := h.sfresh, stf := h.stf, g1 := h.g1, g2 := ?_, g3 := ?_, g4 := h.g4, nx := ?_, kle := ?_ }
  · rw [envL_append, if_pos rfl, ← h.env]
  · rw [cntH_append, h1, ← h.cnt]; simp
  · intro b hb
    rcases h.g2 b hb with h4 | ⟨r', hr, hh⟩
    · exact .inl h4
    · exact .inr ⟨r', by simp [hr], hh⟩
  · intro r' hr hk ob hob
    rcases List.mem_append.1 hr with hr | hr
    · exact h.g3 r' hr hk ob hob
    · simp only [List.mem_singleton] at hr; subst hr; rw [h2] at hob; cases hob
  · intro r' hr
    rcases List.mem_append.1 hr with hr | hr
    · exact h.nx r' hr
    · simp only [List.mem_singleton] at hr; subst hr; rw [h3]; exact Nat.le_refl _
  · intro r' hr
    rcases List.mem_append.1 hr with hr | hr
    · exact h.kle r' hr
    · simp only [List.mem_singleton] at hr; subst hr; exact Nat.le_refl _

theorem Pre.new (h : Pre S e₀ pre sts r.e r.s r.g r.k) {ob : AObj} (h1 : r.heavy = false) (h2 : r.ob = some ob) (h3 : r.nx = r.g.add ob) (hw : Borne S (r.e.put r.o.dst r.v) (r.g.add ob)) :
    Pre S e₀ (pre ++ [r]) sts (r.e.put r.o.dst r.v) r.s (r.g.add ob) r.k := by
  have hget := Heap.get_add r.g
  have hnew : ∀ b o, r.g.get b = some o → b ≠ r.g.next := by
    rintro b o hb rfl
    obtain ⟨F, i, a, w, R, _⟩ := h.wit
    rw [(R.fresh r.g.next (Nat.le_refl _)).2] at hb; cases hb
  refine { env := ?_, cnt := ?_, wit := hw, stl := h.stl, stk := h.stk, mono := h.mono, sfresh := h.sfresh, stf := h.stf, g1 := ?_, g2 := ?_, g3 := ?_, g4 := Nat.le_succ_of_le h.g4, nx := ?_, kle := ?_ }
  · rw [envL_append, if_pos rfl, ← h.env]
  · rw [cntH_append, h1, ← h.cnt]; simp
  · intro b o hb
    have := h.g1 b o hb
    rw [hget, if_neg (hnew b o this)]; exact this
  · intro b hb
    rw [hget] at hb
    split at hb
    · rename_i e; exact .inr ⟨r, by simp, rfl, by rw [h2]; rfl, e.symm⟩
    · rcases h.g2 b hb with h4 | ⟨r', hr, hh⟩
      · exact .inl h4
      · exact .inr ⟨r', by simp [hr], hh⟩
  · intro r' hr hk ob' hob
    rw [hget]
    rcases List.mem_append.1 hr with hr | hr
    · have := h.g3 r' hr hk ob' hob
      rw [if_neg (hnew _ _ this)]; exact this
    · simp only [List.mem_singleton] at hr; subst hr
      rw [if_pos rfl, ← hob, h2]
  · intro r' hr
    rcases List.mem_append.1 hr with hr | hr
    · exact Nat.le_succ_of_le (h.nx r' hr)
    · simp only [List.mem_singleton] at hr; subst hr; rw [h3]; exact Nat.le_refl _
  · intro r' hr
    rcases List.mem_append.1 hr with hr | hr
    · exact h.kle r' hr
    · simp only [List.mem_singleton] at hr; subst hr; exact Nat.le_refl _

theorem Pre.heavy (h : Pre S e₀ pre sts r.e r.s r.g r.k) (h1 : r.heavy = true) (h2 : r.ob = none) (h3 : r.g.next ≤ r.nx.next) (hw : Borne S (r.e.put r.o.dst r.v) r.nx) :
    Pre S e₀ (pre ++ [r]) (sts ++ [r.nx]) (r.e.put r.o.dst r.v) r.nx r.nx (r.k + 1) := by
  have hsn : r.s.next ≤ r.nx.next := Nat.le_trans h.g4 h3
  refine { env := ?_, cnt := ?_, wit := hw, stl := by simp [h.stl], stk := ?_, mono := ?_, sfresh := ?_, stf := ?_, g1 := fun _ _ h => h, g2 := fun b hb => .inl hb, g3 := ?_, g4 := Nat.le_refl _, nx := ?_, kle := ?_ }
  · rw [envL_append, if_pos rfl, ← h.env]
  · rw [cntH_append, h1, ← h.cnt]; simp
  · rw [List.getElem?_append_right (by rw [h.stl]; exact Nat.le_refl _), h.stl]; simp
  · intro s' hs
    rcases List.mem_append.1 hs with hs | hs
    · exact Nat.le_trans (h.mono s' hs) hsn
    · simp only [List.mem_singleton] at hs; subst hs; exact Nat.le_refl _
  · obtain ⟨F, i, a, w, R, _⟩ := hw
    exact fun b hb => (R.fresh b hb).2
  · intro s' hs
    rcases List.mem_append.1 hs with hs | hs
    · exact h.stf s' hs
    · simp only [List.mem_singleton] at hs; subst hs
      obtain ⟨F, i, a, w, R, _⟩ := hw
      exact fun b hb => (R.fresh b hb).2
  · intro r' hr hk ob hob
    rcases List.mem_append.1 hr with hr | hr
    · have := h.kle r' hr; omega
    · simp only [List.mem_singleton] at hr; subst hr; omega
  · intro r' hr
    rcases List.mem_append.1 hr with hr | hr
    · exact Nat.le_trans (h.nx r' hr) h3
    · simp only [List.mem_singleton] at hr; subst hr; exact Nat.le_refl _
  · intro r' hr
    rcases List.mem_append.1 hr with hr | hr
    · exact Nat.le_succ_of_le (h.kle r' hr)
    · simp only [List.mem_singleton] at hr; subst hr; exact Nat.le_succ _
end

/-- What is said of the places of a way. -/
def Places (C : Ctx) (S : String → Code → Prop) (all : List Oper) (e₀ : Env) (pre : List Rc) (sts : List Heap) (rds : List (Op × Env × Nat × Nat × AV)) (l : List (Oper × Nat × Nat)) (e' : Env) (h' : Heap) : Prop :=
  ∃ (rs : List Rc) (fin : List Heap) (s' : Heap) (k' : Nat), rs.length = l.length ∧ readsOk C fin rds = true ∧ (∃ z, fin = sts ++ z) ∧ Pre S e₀ (pre ++ rs) fin e' s' h' k' ∧
      ∀ p r, rs[p]? = some r → ∃ lo hi st, l[p]? = some (r.o, lo, hi) ∧ (∃ z, fin = st ++ z) ∧ Pre S e₀ (pre ++ rs.take p) st r.e r.s r.g r.k ∧ Does C S all fin lo hi r ∧
        r.heavy = isHeavy (kindOf C r.o.op) ∧ (r.heavy = true → fin[r.k + 1]? = some r.nx)

theorem Places.cons {pre : List Rc} {sts sts' : List Heap} {rds rds' : List (Op × Env × Nat × Nat × AV)} {l : List (Oper × Nat × Nat)} {e' : Env} {h' : Heap} {r : Rc} {lo hi : Nat}
    (hp : Pre S e₀ pre sts r.e r.s r.g r.k) (hsub : ∃ z, sts' = sts ++ z) (hrds : ∀ fin, readsOk C fin rds' = true → readsOk C fin rds = true) (hdo : ∀ fin, readsOk C fin rds' = true → Does C S all fin lo hi r) (hhv : r.heavy = isHeavy (kindOf C r.o.op)) (hst : r.heavy = true → sts' = sts ++ [r.nx])
    (ih : Places C S all e₀ (pre ++ [r]) sts' rds' l e' h') : Places C S all e₀ pre sts rds ((r.o, lo, hi) :: l) e' h' := by
  obtain ⟨rs, fin, s', k', h1, h2, ⟨z, h3⟩, h4, h5⟩ := ih
  obtain ⟨z', hz⟩ := hsub
  refine ⟨r :: rs, fin, s', k', by simp [h1], hrds fin h2, ⟨z' ++ z, by rw [h3, hz]; simp⟩, by simpa using h4, ?_⟩
  intro p q hq
  cases p with
  | zero =>
    simp only [List.getElem?_cons_zero, Option.some.injEq] at hq; subst hq
    refine ⟨lo, hi, sts, by simp, ⟨z' ++ z, by rw [h3, hz]; simp⟩, by simpa using hp, hdo fin h2, hhv, fun hh => ?_⟩
    rw [h3, hst hh, List.append_assoc, List.getElem?_append_right (by rw [hp.stl]; exact Nat.le_refl _), hp.stl]
    simp
  | succ p =>
    obtain ⟨lo', hi', st, q1, q2, q3, q4⟩ := h5 p q (by simpa using hq)
    exact ⟨lo', hi', st, by simpa using q1, q2, by simpa using q3, q4⟩

/-- The places of a way. -/
theorem trace (hC : C.Tab) {e : Env} {s g : Heap} {sts : List Heap} {rds : List (Op × Env × Nat × Nat × AV)} {l : List (Oper × Nat × Nat)} {e' : Env} {h' : Heap}
    (T : DrawT C S all e s g sts rds l e' h') : ∀ (pre : List Rc) (k : Nat), Pre S e₀ pre sts.reverse e s g k → Places C S all e₀ pre sts.reverse rds l e' h' := by
  induction T with
  | done hr =>
    intro pre k hp
    exact ⟨[], _, _, _, rfl, hr, ⟨[], by simp⟩, by simpa using hp, fun p r h => by simp at h⟩
  | @noHeavy e s g sts rds o lo hi l e' h' hw hk hd ih =>
    intro pre k hp
    have hb : Borne S (e.put o.dst (.tup [])) g := Borne.undef hp.wit _
    refine Places.cons (r := { o, e, s, g, k, v := .tup [], nx := g, ob := none, heavy := true }) (rds' := rds) hp ⟨[g], rfl⟩ (fun _ h => h) (fun _ _ => .noHeavy rfl rfl rfl hw rfl) hk.symm (fun _ => rfl) ?_
    have := ih _ _ (by simpa using Pre.heavy (r := { o, e, s, g, k, v := .tup [], nx := g, ob := none, heavy := true }) hp rfl rfl (Nat.le_refl _) hb)
    simpa using this
  | @noLight e s g sts rds o lo hi l e' h' hw hk hd ih =>
    intro pre k hp
    have hb : Borne S (e.put o.dst (.tup [])) g := Borne.undef hp.wit _
    refine Places.cons (r := { o, e, s, g, k, v := .tup [], nx := g, ob := none, heavy := false }) (rds' := rds) (sts' := sts.reverse) hp ⟨[], by simp⟩ (fun _ h => h) (fun _ _ => .skip rfl rfl rfl hw rfl) hk.symm (fun h => by cases h) ?_
    exact ih _ _ (Pre.light (r := { o, e, s, g, k, v := .tup [], nx := g, ob := none, heavy := false }) hp rfl rfl rfl hb)
  | @val e s g sts rds o lo hi l e' h' v hw hop hd ih =>
    intro pre k hp
    have hb : Borne S (e.put o.dst v) g := Borne.val hC hp.wit hop
    refine Places.cons (r := { o, e, s, g, k, v, nx := g, ob := none, heavy := false }) (rds' := rds) (sts' := sts.reverse) hp ⟨[], by simp⟩ (fun _ h => h) (fun _ _ => .val rfl rfl rfl hw hop) (by show false = _; rw [kind_val hop]; rfl) (fun h => by cases h) ?_
    exact ih _ _ (Pre.light (r := { o, e, s, g, k, v, nx := g, ob := none, heavy := false }) hp rfl rfl rfl hb)
  | @rd e s g sts rds o lo hi l e' h' v hw hop hd ih =>
    intro pre k hp
    have hb : Borne S (e.put o.dst v) g := Borne.rd hC hp.wit hp.g1 hop
    refine Places.cons (r := { o, e, s, g, k, v, nx := g, ob := none, heavy := false }) (rds' := bif lo.blt hi then (o.op, e, lo, hi, v) :: rds else rds) (sts' := sts.reverse) hp ⟨[], by simp⟩ ?_ ?_ (by show false = _; rw [kind_rd hop]; rfl) (fun h => by cases h) ?_
    · intro fin h
      rw [cond_blt] at h
      split at h
      · simp only [readsOk, Bool.and_eq_true] at h; exact h.2
      · exact h
    · intro fin h
      refine .rd rfl rfl rfl hw hop fun hlt j s' h1 h2 h3 => ?_
      rw [cond_blt, if_pos hlt] at h
      exact readsOk_mem h o.op e lo hi v (by simp) j s' h1 h2 h3
    · exact ih _ _ (Pre.light (r := { o, e, s, g, k, v, nx := g, ob := none, heavy := false }) hp rfl rfl rfl hb)
  | @new e s g sts rds o lo hi l e' h' ob mk hw hop hd ih =>
    intro pre k hp
    have hb : Borne S (e.put o.dst (mk g.next)) (g.add ob) := Borne.new hC hp.wit hop
    refine Places.cons (r := { o, e, s, g, k, v := mk g.next, nx := g.add ob, ob := some ob, heavy := false }) (rds' := rds) (sts' := sts.reverse) hp ⟨[], by simp⟩ (fun _ h => h) (fun _ _ => .new ob mk rfl rfl rfl hw hop rfl) (by show false = _; rw [kind_new hop]; rfl) (fun h => by cases h) ?_
    exact ih _ _ (Pre.new (r := { o, e, s, g, k, v := mk g.next, nx := g.add ob, ob := some ob, heavy := false }) hp rfl rfl rfl hb)
  | @heavy e s g sts rds o lo hi l e' h' v g' hw hk hh hle hd ih =>
    intro pre k hp
    have hb : Borne S (e.put o.dst v) g' := Borne.heavy hp.wit hh
    refine Places.cons (r := { o, e, s, g, k, v, nx := g', ob := none, heavy := true }) (rds' := rds) hp ⟨[g'], rfl⟩ (fun _ h => h) (fun _ _ => .heavy rfl rfl hle hw hh) hk.symm (fun _ => rfl) ?_
    have := ih _ _ (by simpa using Pre.heavy (r := { o, e, s, g, k, v, nx := g', ob := none, heavy := true }) hp rfl rfl hle hb)
    simpa using this

end
end
end Go.Ev
namespace Go.Ev
noncomputable section

theorem bit_eq (m i : Nat) : bit m i = m.testBit i := by
  unfold bit
  rw [beq_nat, Nat.testBit_eq_decide_div_mod_eq]
  show decide (m >>> i % 2 = 1) = _
  rw [Nat.shiftRight_eq_div_pow]
theorem bit_zero (i : Nat) : bit 0 i = false := by rw [bit_eq]; simp

theorem bit_maskOf {acc : List Nat} : ∀ {l : List Edge} {q : Nat}, bit (maskOf acc l) q = true → ∃ x ∈ l, binding x.ground = true ∧ (q = x.on ∨ bit (acc.getD x.on 0) q = true)
  | [], q, h => by rw [maskOf, bit_zero] at h; cases h
  | x :: l, q, h => by
    simp only [maskOf] at h
    cases hb : binding x.ground with
    | false =>
      rw [hb, cond_false] at h
      obtain ⟨y, hy, hh⟩ := bit_maskOf h
      exact ⟨y, by simp [hy], hh⟩
    | true =>
      rw [hb, cond_true, bit_eq] at h
      simp only [Nat.lor_eq, Nat.testBit_or, Bool.or_eq_true] at h
      rcases h with (h | h) | h
      · refine ⟨x, by simp, hb, .inl ?_⟩
        have h' : ((1 : Nat) <<< x.on).testBit q = true := h
        rw [Nat.testBit_shiftLeft, Bool.and_eq_true, decide_eq_true_eq] at h'
        obtain ⟨h1, h2⟩ := h'
        cases hq : q - x.on with
        | zero => omega
        | succ n => rw [hq, Nat.testBit_succ] at h2; simp at h2
      · exact ⟨x, by simp, hb, .inr (by rw [bit_eq]; exact h)⟩
      · rw [← bit_eq] at h
        obtain ⟨y, hy, hh⟩ := bit_maskOf h
        exact ⟨y, by simp [hy], hh⟩

theorem masks_pre : ∀ (l : List Oper) (acc : List Nat), ∃ z, masks l acc = acc ++ z
  | [], acc => ⟨[], by simp [masks]⟩
  | o :: l, acc => by
    obtain ⟨z, hz⟩ := masks_pre l (acc ++ [maskOf acc o.after.toList])
    exact ⟨maskOf acc o.after.toList :: z, by rw [masks, hz]; simp⟩
theorem getD_pre {acc z : List Nat} {j q : Nat} (h : bit (acc.getD j 0) q = true) : bit ((acc ++ z).getD j 0) q = true := by
  rcases Nat.lt_or_ge j acc.length with h1 | h1
  · rw [List.getD_eq_getElem?_getD] at h ⊢
    rw [List.getElem?_append_left h1]; exact h
  · rw [List.getD_eq_getElem?_getD, List.getElem?_eq_none h1] at h
    simp [bit_zero] at h
theorem masks_at : ∀ (l : List Oper) (acc : List Nat) (p : Nat) (o : Oper), l[p]? = some o → ∀ q, bit ((masks l acc).getD (acc.length + p) 0) q = true →
    ∃ x ∈ o.after.toList, binding x.ground = true ∧ (q = x.on ∨ bit ((masks l acc).getD x.on 0) q = true)
  | o :: l, acc, 0, o', h, q, hq => by
    simp only [List.getElem?_cons_zero, Option.some.injEq] at h; subst h
    obtain ⟨z, hz⟩ := masks_pre l (acc ++ [maskOf acc o.after.toList])
    rw [masks, hz] at hq ⊢
    have : (acc ++ [maskOf acc o.after.toList] ++ z).getD (acc.length + 0) 0 = maskOf acc o.after.toList := by
      rw [List.getD_eq_getElem?_getD]; simp
    rw [this] at hq
    obtain ⟨x, h1, h2, h3⟩ := bit_maskOf hq
    refine ⟨x, h1, h2, h3.imp id fun h4 => ?_⟩
    rw [List.append_assoc]; exact getD_pre h4
  | o :: l, acc, p + 1, o', h, q, hq => by
    have := masks_at l (acc ++ [maskOf acc o.after.toList]) p o' (by simpa using h) q (by rw [masks] at hq; simpa [Nat.add_assoc, Nat.add_comm 1 p] using hq)
    rw [masks]; exact this
  | [], _, _, _, h, _, _ => by simp at h

def cntK (C : Ctx) : List Oper → Nat
  | [] => 0
  | o :: l => (if isHeavy (kindOf C o.op) then 1 else 0) + cntK C l

theorem heavies_at {C : Ctx} : ∀ (l : List Oper) (i p : Nat) (o : Oper), l[p]? = some o → isHeavy (kindOf C o.op) = true → (heavies C l i)[cntK C (l.take p)]? = some (i + p)
  | o :: l, i, 0, o', h, hh => by
    simp only [List.getElem?_cons_zero, Option.some.injEq] at h; subst h
    simp [heavies, hh, cntK]
  | o :: l, i, p + 1, o', h, hh => by
    have := heavies_at l (i + 1) p o' (by simpa using h) hh
    simp only [heavies, List.take_succ_cons, cntK]
    cases hk : isHeavy (kindOf C o.op) with
    | true => simp only [cond_true, if_true]; rw [Nat.add_comm 1, List.getElem?_cons_succ, this]; congr 1; omega
    | false => simp only [cond_false, Bool.false_eq_true, if_false, Nat.zero_add]; rw [this]; congr 1; omega
  | [], _, _, _, h, _ => by simp at h
theorem heavies_of {C : Ctx} : ∀ (l : List Oper) (i x q : Nat), (heavies C l i)[x]? = some q → ∃ p o, q = i + p ∧ l[p]? = some o ∧ isHeavy (kindOf C o.op) = true ∧ cntK C (l.take p) = x
  | [], _, _, _, h => by simp [heavies] at h
  | o :: l, i, x, q, h => by
    simp only [heavies] at h
    cases hk : isHeavy (kindOf C o.op) with
    | true =>
      rw [hk, cond_true] at h
      cases x with
      | zero =>
        simp only [List.getElem?_cons_zero, Option.some.injEq] at h; subst h
        exact ⟨0, o, by simp, by simp, hk, by simp [cntK]⟩
      | succ x =>
        rw [List.getElem?_cons_succ] at h
        obtain ⟨p, o', h1, h2, h3, h4⟩ := heavies_of l (i + 1) x q h
        exact ⟨p + 1, o', by omega, by simpa using h2, h3, by simp only [List.take_succ_cons, cntK, hk, if_true, h4]; omega⟩
    | false =>
      rw [hk, cond_false] at h
      obtain ⟨p, o', h1, h2, h3, h4⟩ := heavies_of l (i + 1) x q h
      exact ⟨p + 1, o', by omega, by simpa using h2, h3, by simp only [List.take_succ_cons, cntK, hk, h4]; simp⟩
theorem heavies_length {C : Ctx} : ∀ (l : List Oper) (i : Nat), (heavies C l i).length = cntK C l
  | [], _ => rfl
  | o :: l, i => by
    simp only [heavies, cntK]
    cases hk : isHeavy (kindOf C o.op) with
    | true => simp [heavies_length l]; omega
    | false => simp [heavies_length l]

theorem chained_at : ∀ {ms hs : List Nat} {x a b : Nat}, chained ms hs = true → hs[x]? = some a → hs[x + 1]? = some b → bit (ms.getD b 0) a = true
  | ms, [], x, a, b, _, h, _ => by simp at h
  | ms, [_], x, a, b, _, _, h => by simp at h
  | ms, u :: v :: l, 0, a, b, hc, h1, h2 => by
    simp only [chained, Bool.and_eq_true] at hc
    simp only [List.getElem?_cons_zero, List.getElem?_cons_succ, Option.some.injEq] at h1 h2
    subst h1 h2; exact hc.1
  | ms, u :: v :: l, x + 1, a, b, hc, h1, h2 => by
    simp only [chained, Bool.and_eq_true] at hc
    exact chained_at hc.2 (by simpa using h1) (by simpa using h2)

theorem countIn_le {m : Nat} : ∀ {l : List Nat} {j : Nat}, (∀ x h, l[x]? = some h → bit m h = true → x < j) → countIn m l ≤ j
  | [], _, _ => Nat.zero_le _
  | a :: l, j, h => by
    simp only [countIn]
    cases hb : bit m a with
    | true =>
      have h0 := h 0 a (by simp) hb
      have := countIn_le (l := l) (j := j - 1) (m := m) fun x q hx hq => by have := h (x + 1) q (by simpa using hx) hq; omega
      simp only [cond_true]; omega
    | false =>
      have := countIn_le (l := l) (j := j) (m := m) fun x q hx hq => by have := h (x + 1) q (by simpa using hx) hq; omega
      simpa using this
theorem le_firstWith {ms : List Nat} {i j : Nat} : ∀ {l : List Nat} {k : Nat}, (∀ x h, l[x]? = some h → bit (ms.getD h 0) i = true → j ≤ k + x) → j ≤ k + l.length → j ≤ firstWith ms i l k
  | [], k, _, h => by simpa [firstWith] using h
  | a :: l, k, h, hl => by
    simp only [firstWith]
    cases hb : bit (ms.getD a 0) i with
    | true => simpa using h 0 a (by simp) hb
    | false =>
      simp only [cond_false]
      exact le_firstWith (fun x q hx hq => by have := h (x + 1) q (by simpa using hx) hq; omega) (by simp only [List.length_cons] at hl; omega)

theorem apart_at {ms : List Nat} {i : Nat} {ns : List Tmp} : ∀ {l : List Oper} {k j : Nat} {o : Oper} {d : Tmp}, apartOf ms i ns l k = true → l[j]? = some o → o.dst = some d → hasTmp d ns = true →
    k + j = i ∨ (k + j < i ∧ bit (ms.getD i 0) (k + j) = true) ∨ (i < k + j ∧ bit (ms.getD (k + j) 0) i = true)
  | o' :: l, k, 0, o, d, h, ho, hd, hn => by
    simp only [List.getElem?_cons_zero, Option.some.injEq] at ho; subst ho
    simp only [apartOf, hd, hn, cond_true, Bool.and_eq_true, Bool.or_eq_true] at h
    have h1 := h.1
    rw [cond_blt, beq_nat, decide_eq_true_eq] at h1
    rcases h1 with h1 | h1
    · exact .inl (by omega)
    · split at h1
      · rename_i hlt; exact .inr (.inl ⟨by omega, h1⟩)
      · rename_i hlt
        by_cases he : k = i
        · exact .inl (by omega)
        · exact .inr (.inr ⟨by omega, h1⟩)
  | o' :: l, k, j + 1, o, d, h, ho, hd, hn => by
    simp only [apartOf, Bool.and_eq_true] at h
    have := apart_at h.2 (by simpa using ho) hd hn
    rwa [show k + 1 + j = k + (j + 1) by omega] at this
  | [], _, _, _, _, _, h, _, _ => by simp at h

theorem hasTmp_mem {t : Tmp} : ∀ {l : List Tmp}, t ∈ l → hasTmp t l = true
  | [], h => by simp at h
  | u :: l, h => by
    simp only [hasTmp]
    rcases List.mem_cons.1 h with rfl | h
    · rw [cond_beq, if_pos rfl]
    · rw [cond_beq]; split
      · rfl
      · exact hasTmp_mem h
theorem tmpsOf_mem {t : Tmp} : ∀ {l : List Operand}, Operand.tmp t ∈ l → t ∈ tmpsOf l
  | [], h => by simp at h
  | x :: l, h => by
    rcases List.mem_cons.1 h with h' | h'
    · subst h'; simp [tmpsOf]
    · have := tmpsOf_mem h'
      cases x <;> simp [tmpsOf, this]

theorem back_at {i : Nat} : ∀ {l : List Edge}, edgesBack i l = true → ∀ x ∈ l, binding x.ground = true → x.on < i
  | [], _, _, hx, _ => by simp at hx
  | y :: l, h, x, hx, hb => by
    simp only [edgesBack, Bool.and_eq_true] at h
    rcases List.mem_cons.1 hx with rfl | hx
    · have := h.1; rw [hb, cond_true, blt_nat, decide_eq_true_eq] at this; exact this
    · exact back_at h.2 x hx hb

/-- What a plan says of a place. -/
structure PlanAt (C : Ctx) (all : List Oper) (ms hs : List Nat) (p k : Nat) (o : Oper) (lo hi : Nat) : Prop where
  apart : apartOf ms p (namesOf all o) all 0 = true
  guard : guardOk ms p o = true
  back : edgesBack p o.after.toList = true
  alloc : kindOf C o.op = .alloc → ∀ h, hs[k]? = some h → bit (ms.getD h 0) p = true
  read : kindOf C o.op = .read → lo = countIn (ms.getD p 0) hs ∧ hi = firstWith ms p hs 0 ∧ lo ≤ k ∧ k ≤ hi

theorem planFrom_at {C : Ctx} {all : List Oper} {ms hs : List Nat} : ∀ {l : List Oper} {i k : Nat} {lp : List (Oper × Nat × Nat)}, planFrom C all ms hs l i k = some lp →
    lp.length = l.length ∧ ∀ p o lo hi, lp[p]? = some (o, lo, hi) → l[p]? = some o ∧ PlanAt C all ms hs (i + p) (k + cntK C (l.take p)) o lo hi
  | [], i, k, lp, h => by simp only [planFrom, Option.some.injEq] at h; subst h; exact ⟨rfl, fun p o lo hi h => by simp at h⟩
  | o :: l, i, k, lp, h => by
    simp only [planFrom] at h
    cases hc : (apartOf ms i (namesOf all o) all 0 && guardOk ms i o && edgesBack i o.after.toList) with
    | false => rw [hc] at h; simp at h
    | true =>
    rw [hc] at h
    simp only [cond_true] at h
    simp only [Bool.and_eq_true] at hc
    obtain ⟨⟨c1, c2⟩, c3⟩ := hc
    -- the rest
    have fin : ∀ {lo hi k' : Nat} {r : List (Oper × Nat × Nat)}, planFrom C all ms hs l (i + 1) k' = some r → k' = k + (if isHeavy (kindOf C o.op) then 1 else 0) → lp = (o, lo, hi) :: r →
        (kindOf C o.op = .alloc → ∀ h, hs[k]? = some h → bit (ms.getD h 0) i = true) → (kindOf C o.op = .read → lo = countIn (ms.getD i 0) hs ∧ hi = firstWith ms i hs 0 ∧ lo ≤ k ∧ k ≤ hi) →
        lp.length = (o :: l).length ∧ ∀ p o' lo hi, lp[p]? = some (o', lo, hi) → (o :: l)[p]? = some o' ∧ PlanAt C all ms hs (i + p) (k + cntK C ((o :: l).take p)) o' lo hi := by
      rintro lo hi k' r hr hk' rfl h1 h2
      obtain ⟨g1, g2⟩ := planFrom_at hr
      refine ⟨by simp [g1], fun p o' lo' hi' hp => ?_⟩
      cases p with
      | zero =>
        simp only [List.getElem?_cons_zero, Option.some.injEq, Prod.mk.injEq] at hp
        obtain ⟨rfl, rfl, rfl⟩ := hp
        exact ⟨by simp, c1, c2, c3, by simpa [cntK] using h1, by simpa [cntK] using h2⟩
      | succ p =>
        obtain ⟨q1, q2⟩ := g2 p o' lo' hi' (by simpa using hp)
        refine ⟨by simpa using q1, ?_⟩
        rw [List.take_succ_cons, cntK, show i + (p + 1) = i + 1 + p by omega, ← Nat.add_assoc, ← hk']
        exact q2
    split at h
    · rename_i hk
      split at h
      · rename_i r hr
        simp only [Option.some.injEq] at h
        exact fin hr (by rw [hk]; rfl) h.symm (by rw [hk]; intro hh; cases hh) (by rw [hk]; intro hh; cases hh)
      · exact absurd h (by simp)
    · rename_i hk
      split at h
      · rename_i r hr
        simp only [Option.some.injEq] at h
        exact fin hr (by rw [hk]; rfl) h.symm (by rw [hk]; intro hh; cases hh) (by rw [hk]; intro hh; cases hh)
      · exact absurd h (by simp)
    · rename_i hk
      have fin2 : ∀ {x : Option (List (Oper × Nat × Nat))}, x = some lp → x = (match planFrom C all ms hs l (i + 1) k with | some r => some ((o, 0, 0) :: r) | none => none) → (∀ h, hs[k]? = some h → bit (ms.getD h 0) i = true) →
          lp.length = (o :: l).length ∧ ∀ p o' lo hi, lp[p]? = some (o', lo, hi) → (o :: l)[p]? = some o' ∧ PlanAt C all ms hs (i + p) (k + cntK C ((o :: l).take p)) o' lo hi := by
        intro x hx h hq
        rw [hx] at h
        split at h
        · rename_i r hr
          simp only [Option.some.injEq] at h
          exact fin hr (by rw [hk]; rfl) h (fun _ => hq) (by rw [hk]; intro hh; cases hh)
        · exact absurd h (by simp)
      cases hh : hs[k]? with
      | none => rw [hh] at h; exact fin2 h rfl (fun q hq => by rw [hh] at hq; cases hq)
      | some u =>
        rw [hh] at h
        simp only at h
        cases hb : bit (ms.getD u 0) i with
        | false => rw [hb] at h; simp at h
        | true => rw [hb] at h; exact fin2 h rfl (fun q hq => by rw [hh] at hq; cases hq; exact hb)
    · rename_i hk
      cases hm : ((countIn (ms.getD i 0) hs).ble k && k.ble (firstWith ms i hs 0)) with
      | false => rw [hm] at h; simp at h
      | true =>
        rw [hm] at h
        simp only [cond_true] at h
        simp only [Bool.and_eq_true, ble_nat, decide_eq_true_eq] at hm
        split at h
        · rename_i r hr
          simp only [Option.some.injEq] at h
          exact fin hr (by rw [hk]; rfl) h.symm (by rw [hk]; intro hh; cases hh) (fun _ => ⟨rfl, rfl, hm.1, hm.2⟩)
        · exact absurd h (by simp)
    · rename_i hk
      split at h
      · rename_i r hr
        simp only [Option.some.injEq] at h
        exact fin hr (by rw [hk]; rfl) h.symm (by rw [hk]; intro hh; cases hh) (by rw [hk]; intro hh; cases hh)
      · exact absurd h (by simp)

/-! ### Environments of a set of places -/

def wr? (D : Nat → Bool) (t : Tmp) : Nat → List Rc → AV → AV
  | _, [], v => v
  | k, r :: rs, v => wr? D t (k + 1) rs (if D k = true ∧ r.o.dst = some t then r.v else v)
theorem envL_n (D : Nat → Bool) : ∀ (rs : List Rc) (k : Nat) (e : Env), (envL D k rs e).n = e.n
  | [], _, _ => rfl
  | r :: rs, k, e => by rw [envL, envL_n D rs]; split <;> simp
theorem envL_get (D : Nat → Bool) (t : Tmp) : ∀ (rs : List Rc) (k : Nat) (e : Env), (envL D k rs e).get t = if t < e.n then wr? D t k rs (e.get t) else e.get t
  | [], k, e => by simp [envL, wr?]
  | r :: rs, k, e => by
    rw [envL, envL_get D t rs, wr?]
    by_cases hD : D k = true
    · simp only [hD, if_true, true_and, Env.n_put]
      cases hd : r.o.dst with
      | none => simp [Env.put]
      | some d =>
        simp only [Env.put, Env.get_set, Option.some.injEq]
        by_cases h1 : t < e.n
        · simp only [h1, if_true]
          by_cases h2 : t = d
          · subst h2; simp [h1]
          · rw [if_neg (by simp [h2]), if_neg (fun hh => h2 hh.symm)]
        · simp only [h1, if_false]
          rw [if_neg]; rintro ⟨rfl, h3⟩; exact h1 h3
    · simp only [hD, if_false, false_and]; simp

/-- A temporary of which the places that write it, as far as they are in a set, are those ahead of a place. -/
theorem wr_upto {D : Nat → Bool} {t : Tmp} : ∀ {rs : List Rc} {k p : Nat} {v : AV}, (∀ j r, rs[j]? = some r → r.o.dst = some t → (D (k + j) = true ↔ j < p)) → wr? D t k rs v = wr? (fun _ => true) t k (rs.take p) v
  | [], _, _, _, _ => by simp [wr?]
  | r :: rs, k, 0, v, h => by
    have h0 := h 0 r (by simp)
    have ih := wr_upto (D := D) (t := t) (rs := rs) (k := k + 1) (p := 0) (v := if D k = true ∧ r.o.dst = some t then r.v else v) fun j q hq hd => by
      have := h (j + 1) q (by simpa using hq) hd
      rw [show k + 1 + j = k + (j + 1) by omega]; simpa using this
    simp only [wr?, ih, List.take_zero]
    rw [if_neg]
    rintro ⟨h1, h2⟩
    have := (h0 h2).1 (by simpa using h1); omega
  | r :: rs, k, p + 1, v, h => by
    have h0 := h 0 r (by simp)
    have ih := wr_upto (D := D) (t := t) (rs := rs) (k := k + 1) (p := p) (v := if D k = true ∧ r.o.dst = some t then r.v else v) fun j q hq hd => by
      have := h (j + 1) q (by simpa using hq) hd
      rw [show k + 1 + j = k + (j + 1) by omega]; simpa using this
    simp only [wr?, ih, List.take_succ_cons]
    congr 1
    by_cases hd : r.o.dst = some t
    · have : D k = true := by simpa using (h0 hd).2 (by omega)
      simp [this, hd]
    · simp [hd]

/-- One place more. -/
theorem wr_set {D D' : Nat → Bool} {t : Tmp} : ∀ {rs : List Rc} {k p : Nat} {r : Rc} {v : AV}, rs[p]? = some r → (∀ j, j ≠ k + p → D' j = D j) → D' (k + p) = true → D (k + p) = false →
    (∀ j q, p < j → rs[j]? = some q → q.o.dst = r.o.dst → r.o.dst = some t → D (k + j) = false) → wr? D' t k rs v = if r.o.dst = some t then r.v else wr? D t k rs v
  | [], _, _, _, _, h, _, _, _, _ => by simp at h
  | q :: rs, k, 0, r, v, h, h1, h2, h3, h4 => by
    simp only [List.getElem?_cons_zero, Option.some.injEq] at h; subst h
    simp only [Nat.add_zero] at h1 h2 h3
    simp only [wr?, h2, h3, true_and, Bool.false_eq_true, false_and, if_false]
    have same : ∀ (l : List Rc) (m : Nat) (u : AV), k < m → wr? D' t m l u = wr? D t m l u := by
      intro l
      induction l with
      | nil => intro m u _; rfl
      | cons x l ih => intro m u hm; simp only [wr?]; rw [h1 m (by omega), ih (m + 1) _ (by omega)]
    rw [same _ _ _ (by omega)]
    by_cases hd : q.o.dst = some t
    · simp only [hd, if_true]
      have none' : ∀ (l : List Rc) (m : Nat) (u : AV), (∀ j x, l[j]? = some x → x.o.dst = some t → D (m + j) = false) → wr? D t m l u = u := by
        intro l
        induction l with
        | nil => intro m u _; rfl
        | cons x l ih =>
          intro m u hm
          simp only [wr?]
          rw [if_neg, ih]
          · intro j y hy hd; have := hm (j + 1) y (by simpa using hy) hd; rwa [show m + 1 + j = m + (j + 1) by omega]
          · rintro ⟨g1, g2⟩; have := hm 0 x (by simp) g2; simp only [Nat.add_zero] at this; rw [this] at g1; cases g1
      apply none'
      intro j x hx hd'
      have := h4 (j + 1) x (by omega) (by simpa using hx) (by rw [hd', hd]) hd
      rwa [show k + 1 + j = k + (j + 1) by omega]
    · simp [hd]
  | q :: rs, k, p + 1, r, v, h, h1, h2, h3, h4 => by
    simp only [wr?]
    rw [h1 k (by omega)]
    exact wr_set (p := p) (by simpa using h) (fun j hj => h1 j (by omega)) (by rw [show k + 1 + p = k + (p + 1) by omega]; exact h2) (by rw [show k + 1 + p = k + (p + 1) by omega]; exact h3)
      (fun j x hj hx hd hd' => by have := h4 (j + 1) x (by omega) (by simpa using hx) hd hd'; rwa [show k + 1 + j = k + (j + 1) by omega])

end
end Go.Ev
