/-
  EvDraws: every order of a region that draws. No condition.
-/
import Derived.Test.YtmmaneofdfbllaaGreatEvTrace
set_option linter.unusedVariables false
set_option linter.unusedSimpArgs false
set_option linter.unusedSectionVars false
namespace Go.Ev
noncomputable section

theorem cnt_same {C : Ctx} : ∀ {rs : List Rc} {all : List Oper} (p : Nat), rs.length = all.length → (∀ (p : Nat) (r : Rc), rs[p]? = some r → all[p]? = some r.o ∧ r.heavy = isHeavy (kindOf C r.o.op)) → cntH (rs.take p) = cntK C (all.take p)
  | [], [], p, _, _ => by simp [cntH, cntK]
  | r :: rs, o :: all, 0, _, _ => by simp [cntH, cntK]
  | r :: rs, o :: all, p + 1, hl, h => by
    obtain ⟨h1, h2⟩ := h 0 r (by simp)
    simp only [List.getElem?_cons_zero, Option.some.injEq] at h1; subst h1
    simp only [List.take_succ_cons, cntH, cntK, h2]
    rw [cnt_same p (by simpa using hl) fun q x hx => by simpa using h (q + 1) x (by simpa using hx)]
  | [], _ :: _, _, hl, _ => by simp at hl
  | _ :: _, [], _, hl, _ => by simp at hl

section
variable (C : Ctx) (S : String → Code → Prop) (all : List Oper) (e₀ : Env) (ms hs : List Nat) (rs : List Rc) (fin : List Heap) (e' : Env) (h' : Heap)

/-- A way, with its plan. -/
structure Way : Prop where
  tab : C.Tab
  len : rs.length = all.length
  pl : ∀ (p : Nat) (r : Rc), rs[p]? = some r → all[p]? = some r.o ∧ ∃ lo hi st, PlanAt C all ms hs p r.k r.o lo hi ∧ (∃ z, fin = st ++ z) ∧ Pre S e₀ (rs.take p) st r.e r.s r.g r.k ∧ Does C S all fin lo hi r ∧ (r.heavy = true → fin[r.k + 1]? = some r.nx)
  fi : ∃ s' k', Pre S e₀ rs fin e' s' h' k'
  hsAt : ∀ (p : Nat) (r : Rc), rs[p]? = some r → r.heavy = true → hs[r.k]? = some p
  hsOf : ∀ (x q : Nat), hs[x]? = some q → ∃ r : Rc, rs[q]? = some r ∧ r.heavy = true ∧ r.k = x
  hsLen : hs.length = cntH rs
  chain : ∀ (x a b : Nat), hs[x]? = some a → hs[x + 1]? = some b → bit (ms.getD b 0) a = true
  mask : ∀ (p : Nat) (o : Oper) (q : Nat), all[p]? = some o → bit (ms.getD p 0) q = true → ∃ x ∈ o.after.toList, binding x.ground = true ∧ (q = x.on ∨ bit (ms.getD x.on 0) q = true)

def Ext (rs : List Rc) (D : Nat → Bool) (j b : Nat) (ob : AObj) : Prop := ∃ (q : Nat) (r : Rc), rs[q]? = some r ∧ D q = true ∧ r.ob = some ob ∧ r.g.next = b ∧ j ≤ r.k

/-- Where a drawn order has come to. -/
structure At (F : Fr) (ds : List Nat) (D : Nat → Bool) (j : Nat) (X : Nat → Option AObj) (i : Emb) (a : Act) (w : World) : Prop where
  closed : ∀ p, D p = true → ∀ q, bit (ms.getD p 0) q = true → D q = true
  pref : ∀ (x q : Nat), hs[x]? = some q → (D q = true ↔ x < j)
  jle : j ≤ hs.length
  ext : ∀ b ob, X b = some ob ↔ Ext rs D j b ob
  rel : ∀ Sj, fin[j]? = some Sj → Rel S F i (overlay Sj.get X) h'.next w ∧ ∀ b, Sj.next ≤ b → i b ≠ none → X b ≠ none
  env : ERel i (envL D 0 rs e₀) a.tmps
  ds : DRel i ds a.defers
end

section
variable {C : Ctx} {S : String → Code → Prop} {all : List Oper} {e₀ : Env} {ms hs : List Nat} {rs : List Rc} {fin : List Heap} {e' : Env} {h' : Heap}

theorem Way.obOf (W : Way C S all e₀ ms hs rs fin e' h') {p : Nat} {r : Rc} {ob : AObj} (hr : rs[p]? = some r) (ho : r.ob = some ob) :
    r.heavy = false ∧ r.nx = r.g.add ob ∧ wanted all r.e r.o = some true ∧ ∃ mk, opEval C r.e r.s r.g r.o.op = .new ob mk ∧ r.v = mk r.g.next := by
  obtain ⟨_, lo, hi, st, _, _, _, hd, _⟩ := W.pl p r hr
  cases hd with
  | new ob' mk h1 h2 h3 h4 h5 h6 => rw [ho] at h2; cases h2; exact ⟨h1, h3, h4, mk, h5, h6⟩
  | skip _ h2 => rw [ho] at h2; cases h2
  | val _ h2 => rw [ho] at h2; cases h2
  | rd _ h2 => rw [ho] at h2; cases h2
  | noHeavy _ h2 => rw [ho] at h2; cases h2
  | heavy _ h2 => rw [ho] at h2; cases h2

theorem Way.nxLe (W : Way C S all e₀ ms hs rs fin e' h') {p q : Nat} {r r' : Rc} (hr : rs[p]? = some r) (hq : rs[q]? = some r') (hlt : p < q) : r.nx.next ≤ r'.g.next := by
  obtain ⟨_, lo, hi, st, _, _, hp, _⟩ := W.pl q r' hq
  refine hp.nx r (List.mem_of_getElem? (i := p) ?_)
  rw [List.getElem?_take_of_lt hlt]; exact hr

theorem Way.uniq (W : Way C S all e₀ ms hs rs fin e' h') {p q : Nat} {r r' : Rc} (hr : rs[p]? = some r) (hq : rs[q]? = some r') {ob ob' : AObj} (h1 : r.ob = some ob) (h2 : r'.ob = some ob') (he : r.g.next = r'.g.next) : p = q := by
  obtain ⟨_, n1, _⟩ := W.obOf hr h1
  obtain ⟨_, n2, _⟩ := W.obOf hq h2
  rcases Nat.lt_trichotomy p q with h | h | h
  · have := W.nxLe hr hq h; rw [n1] at this; simp only [Heap.next_add] at this; omega
  · exact h
  · have := W.nxLe hq hr h; rw [n2] at this; simp only [Heap.next_add] at this; omega

theorem Way.stage (W : Way C S all e₀ ms hs rs fin e' h') {p : Nat} {r : Rc} (hr : rs[p]? = some r) : fin[r.k]? = some r.s := by
  obtain ⟨_, lo, hi, st, _, ⟨z, hz⟩, hp, _⟩ := W.pl p r hr
  rw [hz, List.getElem?_append_left (by rw [hp.stl]; omega)]
  exact hp.stk

theorem Way.below (W : Way C S all e₀ ms hs rs fin e' h') {p j : Nat} {r : Rc} {Sj : Heap} (hr : rs[p]? = some r) (hj : j ≤ r.k) (hS : fin[j]? = some Sj) : Sj.next ≤ r.g.next := by
  obtain ⟨_, lo, hi, st, _, ⟨z, hz⟩, hp, _⟩ := W.pl p r hr
  rw [hz, List.getElem?_append_left (by rw [hp.stl]; omega)] at hS
  exact Nat.le_trans (hp.mono Sj (List.mem_of_getElem? hS)) hp.g4

theorem Way.fresh (W : Way C S all e₀ ms hs rs fin e' h') {j : Nat} {Sj : Heap} (hS : fin[j]? = some Sj) {b : Nat} (hb : Sj.next ≤ b) : Sj.get b = none := by
  obtain ⟨s', k', hp⟩ := W.fi
  exact hp.stf Sj (List.mem_of_getElem? hS) b hb

/-- Text before heavy places. -/
theorem Way.kLt (W : Way C S all e₀ ms hs rs fin e' h') {p q : Nat} {r r' : Rc} (hr : rs[p]? = some r) (hq : rs[q]? = some r') (hh : r.heavy = true) (hk : r'.k = r.k) (hne : q ≠ p) : q < p := by
  rcases Nat.lt_trichotomy p q with h | h | h
  · exfalso
    obtain ⟨_, lo, hi, st, _, _, hp, _⟩ := W.pl q r' hq
    obtain ⟨_, lo1, hi1, st1, _, _, hp1, _⟩ := W.pl p r hr
    have e1 := hp.cnt
    have e2 := hp1.cnt
    -- rs.take q = rs.take p ++ r :: ..
    have : cntH (rs.take p) + 1 ≤ cntH (rs.take q) := by
      have hsplit : rs.take q = (rs.take p ++ [r]) ++ (rs.drop (p + 1)).take (q - (p + 1)) := by
        have h1 : rs.take (p + 1) = rs.take p ++ [r] := by rw [List.take_add_one, hr]; rfl
        rw [← h1, List.take_drop, show p + 1 + (q - (p + 1)) = q by omega]
        conv => lhs; rw [← List.take_append_drop (p + 1) (rs.take q)]
        rw [List.take_take, Nat.min_eq_left (by omega)]
      have mono : ∀ (l m : List Rc), cntH l ≤ cntH (l ++ m) := by
        intro l m; induction l with
        | nil => simp [cntH]
        | cons x l ih => simp only [List.cons_append, cntH]; omega
      have := mono (rs.take p ++ [r]) ((rs.drop (p + 1)).take (q - (p + 1)))
      rw [← hsplit, cntH_append, hh] at this
      simpa using this
    omega
  · exact absurd h.symm hne
  · exact h

end
end
end Go.Ev
namespace Go.Ev
noncomputable section

/-! ### An environment of some temporaries -/

def maskTr (e : Env) (ns : List Tmp) : Nat → Tr AV
  | 0 => .leaf
  | k + 1 => (maskTr e ns k).put k (if k ∈ ns then e.get k else .unk)
theorem maskTr_get (e : Env) (ns : List Tmp) : ∀ (k t : Nat), (maskTr e ns k).get t = if t < k then some (if t ∈ ns then e.get t else .unk) else none
  | 0, t => by simp [maskTr, Tr.get_leaf]
  | k + 1, t => by
    rw [maskTr, Tr.get_put, maskTr_get e ns k]
    by_cases h : t = k
    · subst h; simp
    · rw [if_neg h]
      by_cases h2 : t < k
      · simp [h2, show t < k + 1 by omega]
      · simp [h2, show ¬ t < k + 1 by omega]
def bound : List Nat → Nat
  | [] => 0
  | t :: l => t + 1 + bound l
theorem lt_bound {t : Nat} : ∀ {l : List Nat}, t ∈ l → t < bound l
  | [], h => by simp at h
  | u :: l, h => by
    rcases List.mem_cons.1 h with rfl | h
    · simp only [bound]; omega
    · have := lt_bound h; simp only [bound]; omega
def maskEnv (e : Env) (ns : List Tmp) : Env := { n := e.n, t := maskTr e ns (e.n + bound ns) }
theorem maskEnv_get (e : Env) (ns : List Tmp) (t : Nat) : (maskEnv e ns).get t = if t < e.n + bound ns then (if t ∈ ns then e.get t else .unk) else .tup [] := by
  simp only [Env.get, maskEnv, maskTr_get]
  by_cases h : t < e.n + bound ns
  · simp [h]
  · simp [h]

theorem own_new {C : Ctx} {S : String → Code → Prop} (hC : C.Tab) {e : Env} {s g : Heap} {op : Op} {ob : AObj} {mk : Nat → AV} (hb : Borne S e g) {o : Oper} (ho : o.op = op) (h : opEval C e s g op = .new ob mk) : ob.own = true := by
  obtain ⟨F, i, a, w, R, gE⟩ := hb
  subst ho
  obtain ⟨m, hm, x, w', O, tot, h1, h2, h3, h4, h5, h6, h7⟩ := new_ok (S := S) (w := w) hC gE h
  exact h6

section
variable {C : Ctx} {S : String → Code → Prop} {all : List Oper} {e₀ : Env} {ms hs : List Nat} {rs : List Rc} {fin : List Heap} {e' : Env} {h' : Heap}
variable {F : Fr} {ds : List Nat} {D : Nat → Bool} {j : Nat} {X : Nat → Option AObj} {i : Emb} {a : Act} {w : World}

/-- A place that may be taken. -/
structure Ready (ms : List Nat) (rs : List Rc) (D : Nat → Bool) (p : Nat) (r : Rc) : Prop where
  here : rs[p]? = some r
  out : D p = false
  anc : ∀ q, bit (ms.getD p 0) q = true → D q = true

def setD (D : Nat → Bool) (p : Nat) : Nat → Bool := fun q => if q = p then true else D q
theorem setD_same (D : Nat → Bool) (p : Nat) : setD D p p = true := by simp [setD]
theorem setD_ne {D : Nat → Bool} {p q : Nat} (h : q ≠ p) : setD D p q = D q := by simp [setD, h]

variable (W : Way C S all e₀ ms hs rs fin e' h') (A : At S e₀ ms hs rs fin h' F ds D j X i a w) {p : Nat} {r : Rc} (K : Ready ms rs D p r)
include W A K

theorem wayEnv {t : Tmp} (ht : t ∈ namesOf all r.o) : (envL D 0 rs e₀).get t = r.e.get t := by
  obtain ⟨ha, lo, hi, st, hp, _, hpre, _⟩ := W.pl p r K.here
  rw [hpre.env, envL_get, envL_get]
  have : wr? D t 0 rs (e₀.get t) = wr? (fun _ => true) t 0 (rs.take p) (e₀.get t) := by
    refine wr_upto fun q r' hq hd => ?_
    obtain ⟨hq', _⟩ := W.pl q r' hq
    rcases apart_at hp.apart hq' hd (hasTmp_mem ht) with h | ⟨h1, h2⟩ | ⟨h1, h2⟩
    · have : q = p := by omega
      subst this
      simp [K.out]
    · simp only [Nat.zero_add] at h1 h2 ⊢
      exact ⟨fun _ => h1, fun _ => K.anc q h2⟩
    · simp only [Nat.zero_add] at h1 h2 ⊢
      constructor
      · intro hD
        have := A.closed q hD p h2
        rw [K.out] at this; cases this
      · intro hlt; omega
  rw [this]

theorem wayOpd : ∀ x ∈ r.o.op.operands.toList, opd (envL D 0 rs e₀) x = opd r.e x := by
  intro x hx
  cases x with
  | tmp t =>
    have : t ∈ namesOf all r.o := by simp only [namesOf, List.mem_append]; exact .inl (.inr (tmpsOf_mem hx))
    simp only [opd, wayEnv W A K this]
  | const v => rfl
  | global g => rfl
  | func f => rfl

theorem wayWanted : wanted all (envL D 0 rs e₀) r.o = wanted all r.e r.o := by
  unfold wanted
  cases hg : r.o.guard with
  | none => rfl
  | some jw =>
    obtain ⟨q, b⟩ := jw
    simp only
    cases hq : all[q]? with
    | none => rfl
    | some o =>
      simp only
      cases hd : o.dst with
      | none => rfl
      | some d =>
        simp only
        have : d ∈ namesOf all r.o := by simp only [namesOf, List.mem_append, hg, dstOf, hq, hd]; exact .inr (by simp)
        rw [wayEnv W A K this]

/-- Of what the place writes, it is the last that writes. -/
theorem wayPut {i' : Emb} (hi : i.Le i') {x : Value} (gv : VRel i' r.v x) : ERel i' (envL (setD D p) 0 rs e₀) (a.put r.o.dst x).tmps := by
  obtain ⟨ha, lo, hi', st, hp, _, hpre, _⟩ := W.pl p r K.here
  have g := (A.env.mono hi).put gv r.o.dst
  refine ⟨?_, fun t => ?_⟩
  · have := g.1; rw [Env.n_put, envL_n] at this; rw [envL_n]; exact this
  · have h1 := g.2 t
    have e1 : (envL (setD D p) 0 rs e₀).get t = ((envL D 0 rs e₀).put r.o.dst r.v).get t := by
      have hw := wr_set (D := D) (D' := setD D p) (t := t) (rs := rs) (k := 0) (p := p) (v := e₀.get t) K.here (fun q hq => setD_ne (by omega)) (by simp [setD]) (by simpa using K.out) (by
        intro q r' hlt hq hd hdt
        obtain ⟨hq', _⟩ := W.pl q r' hq
        have hn : t ∈ namesOf all r.o := by simp only [namesOf, List.mem_append, hdt]; exact .inl (.inl (by simp))
        rcases apart_at hp.apart hq' (hd.trans hdt) (hasTmp_mem hn) with h | ⟨h1, _⟩ | ⟨_, h2⟩
        · omega
        · omega
        · cases hD : D (0 + q) with
          | false => rfl
          | true =>
            simp only [Nat.zero_add] at h2 hD
            have := A.closed q hD p h2
            rw [K.out] at this; cases this)
      rw [envL_get, hw]
      cases hd : r.o.dst with
      | none => simp only [Env.put]; rw [envL_get]; simp
      | some d =>
        simp only [Env.put, Env.get_set, envL_n, envL_get, Option.some.injEq]
        by_cases h2 : t = d
        · subst h2
          by_cases h3 : t < e₀.n
          · simp [h3]
          · simp [h3]
        · have : ¬ d = t := fun h => h2 h.symm
          simp [h2, this]
    rw [e1]; exact h1

theorem wayClosed : ∀ q, setD D p q = true → ∀ x, bit (ms.getD q 0) x = true → setD D p x = true := by
  intro q hq x hx
  by_cases h1 : x = p
  · subst h1; exact setD_same _ _
  · rw [setD_ne h1]
    by_cases h2 : q = p
    · subst h2; exact K.anc x hx
    · rw [setD_ne h2] at hq; exact A.closed q hq x hx

/-- Its stage, if it is heavy. -/
theorem wayStage (hh : r.heavy = true) : r.k = j := by
  have h1 := W.hsAt p r K.here hh
  have h2 : ¬ r.k < j := by
    intro hlt
    have := (A.pref r.k p h1).2 hlt
    rw [K.out] at this; cases this
  cases hk : r.k with
  | zero => omega
  | succ k =>
    have hlt : k < hs.length := by have := (List.getElem?_eq_some_iff.1 h1).1; omega
    have h3 : hs[k]? = some hs[k] := List.getElem?_eq_getElem hlt
    have h4 := W.chain k _ _ h3 (by rw [← hk]; exact h1)
    have h5 := (A.pref k _ h3).1 (K.anc _ h4)
    omega
theorem wayHeavy (hh : r.heavy = true) : ∀ x q, hs[x]? = some q → (setD D p q = true ↔ x < j + 1) := by
  have hk := wayStage W A K hh
  intro x q hq
  by_cases h1 : q = p
  · subst h1
    obtain ⟨r', h2, h3, h4⟩ := W.hsOf x q hq
    rw [K.here] at h2; cases h2
    simp only [setD_same, true_iff]; omega
  · rw [setD_ne h1, A.pref x q hq]
    constructor
    · intro h; omega
    · intro h
      rcases Nat.lt_or_ge x j with h2 | h2
      · exact h2
      · exfalso
        have : x = r.k := by omega
        rw [this, W.hsAt p r K.here hh] at hq
        cases hq; exact h1 rfl
theorem wayLight (hh : r.heavy = false) : ∀ x q, hs[x]? = some q → (setD D p q = true ↔ x < j) := by
  intro x q hq
  have : q ≠ p := by
    rintro rfl
    obtain ⟨r', h2, h3, h4⟩ := W.hsOf x q hq
    rw [K.here] at h2; cases h2
    rw [hh] at h3; cases h3
  rw [setD_ne this]; exact A.pref x q hq

/-- The stage that has come. -/
theorem wayNow : ∃ Sj, fin[j]? = some Sj := by
  obtain ⟨s', k', hp⟩ := W.fi
  have h1 : fin.length = hs.length + 1 := by rw [hp.stl, hp.cnt, W.hsLen]
  have := A.jle
  exact ⟨_, List.getElem?_eq_getElem (by omega)⟩

theorem wayXLow {Sj : Heap} (hS : fin[j]? = some Sj) {b : Nat} {ob : AObj} (hX : X b = some ob) : Sj.next ≤ b := by
  obtain ⟨q, r', h1, _, _, h4, h5⟩ := (A.ext b ob).1 hX
  rw [← h4]; exact W.below h1 h5 hS
theorem wayObjs {Sj : Heap} (hS : fin[j]? = some Sj) : Objs S i Sj.get w := by
  obtain ⟨R, _⟩ := A.rel Sj hS
  intro b o hb ho
  refine R.objs b o ?_ ho
  cases hX : X b with
  | none => rw [overlay_none hX]; exact hb
  | some ob => have := W.fresh hS (wayXLow W A K hS hX); rw [this] at hb; cases hb

/-- Nothing but a temporary has changed. -/
theorem wayPlain (hh : r.heavy = false) (ho : r.ob = none) {x : Value} (gv : VRel i r.v x) : At S e₀ ms hs rs fin h' F ds (setD D p) j X i (a.put r.o.dst x) w := by
  refine { closed := wayClosed W A K, pref := wayLight W A K hh, jle := A.jle, ext := ?_, rel := A.rel, env := wayPut W A K (Emb.Le.refl _) gv, ds := by rw [put_defers]; exact A.ds }
  intro b ob
  rw [A.ext b ob]
  constructor
  · rintro ⟨q, r', h1, h2, h3⟩
    refine ⟨q, r', h1, ?_, h3⟩
    by_cases h : q = p
    · subst h; exact setD_same _ _
    · rw [setD_ne h]; exact h2
  · rintro ⟨q, r', h1, h2, h3, h4⟩
    have : q ≠ p := by rintro rfl; rw [K.here] at h1; cases h1; rw [ho] at h3; cases h3
    exact ⟨q, r', h1, by rw [setD_ne this] at h2; exact h2, h3, h4⟩

theorem wayRead {lo hi : Nat} (hkind : kindOf C r.o.op = .read) (hpl : PlanAt C all ms hs p r.k r.o lo hi) (hrd : opEval C r.e r.s r.g r.o.op = .rd r.v)
    (hst : lo < hi → ∀ j s', lo ≤ j → j ≤ hi → fin[j]? = some s' → opEval C r.e s' s' r.o.op = .rd r.v) {Sj : Heap} (hS : fin[j]? = some Sj) : ∃ gg, opEval C (envL D 0 rs e₀) Sj gg r.o.op = .rd r.v := by
  obtain ⟨h1, h2, h3, h4⟩ := hpl.read hkind
  have l1 : lo ≤ j := by
    rw [h1]
    exact countIn_le fun x q hx hq => (A.pref x q hx).1 (K.anc q hq)
  have l2 : j ≤ hi := by
    rw [h2]
    refine le_firstWith (fun x q hx hq => ?_) (by have := A.jle; omega)
    rcases Nat.lt_or_ge x j with h | h
    · exfalso
      have := A.closed q ((A.pref x q hx).2 h) p hq
      rw [K.out] at this; cases this
    · omega
  rcases Nat.lt_or_ge lo hi with hlt | hge
  · exact ⟨Sj, by rw [opEval_congr (wayOpd W A K)]; exact hst hlt j Sj l1 l2 hS⟩
  · have hk : j = r.k := by omega
    have : Sj = r.s := by
      have := W.stage K.here
      rw [← hk, hS] at this; cases this; rfl
    subst this
    exact ⟨r.g, by rw [opEval_congr (wayOpd W A K)]; exact hrd⟩

end
end
end Go.Ev
namespace Go.Ev
noncomputable section

section
variable {C : Ctx} {S : String → Code → Prop} {all : List Oper} {e₀ : Env} {ms hs : List Nat} {rs : List Rc} {fin : List Heap} {e' : Env} {h' : Heap}
variable {F : Fr} {ds : List Nat} {D : Nat → Bool} {j : Nat} {X : Nat → Option AObj} {i : Emb} {a : Act} {w : World}
variable (W : Way C S all e₀ ms hs rs fin e' h') (A : At S e₀ ms hs rs fin h' F ds D j X i a w) {p : Nat} {r : Rc} (K : Ready ms rs D p r)
include W A K

/-- A block more. -/
theorem wayNew {ob : AObj} (ho : r.ob = some ob) {x : Value} {w' : World} {O : Obj} {tot : Nat} {mk : Nat → AV} (hv : r.v = mk r.g.next) (h2 : w'.heap = w.heap.push O) (h3 : w'.os = w.os) (h4 : w'.output = w.output) (h5 : w'.tape = w.tape) (h6 : ob.own = true)
    (h7 : ∀ (j : Emb) (b : Nat), i.Le j → j b = some (w.heap.size, tot) → VRel j (mk b) x ∧ ORel S j tot ob (some O)) :
    ∃ i', i.Le i' ∧ At S e₀ ms hs rs fin h' F ds (setD D p) j (updG X r.g.next ob) i' (a.put r.o.dst x) w' := by
  obtain ⟨hh, hnx, hwt, mk', hop, _⟩ := W.obOf K.here ho
  obtain ⟨_, lo, hi, st, hp, _, hpre, _⟩ := W.pl p r K.here
  -- its stage is no earlier one
  have hk : j ≤ r.k := by
    rcases Nat.lt_or_ge r.k j with h | h
    · exfalso
      have hlt : r.k < hs.length := by have := A.jle; omega
      have hq : hs[r.k]? = some hs[r.k] := List.getElem?_eq_getElem hlt
      have := A.closed _ ((A.pref _ _ hq).2 h) p (hp.alloc (kind_new hop) _ hq)
      rw [K.out] at this; cases this
    · exact h
  obtain ⟨Sj, hS⟩ := wayNow W A K
  obtain ⟨R, hJ⟩ := A.rel Sj hS
  have hb := W.below K.here hk hS
  have hXn : X r.g.next = none := by
    cases hx : X r.g.next with
    | none => rfl
    | some ob' =>
      obtain ⟨q, r', q1, q2, q3, q4, _⟩ := (A.ext _ _).1 hx
      have := W.uniq q1 K.here q3 ho q4
      subst this
      rw [K.out] at q2; cases q2
  have hi : i r.g.next = none := by
    cases hx : i r.g.next with
    | none => rfl
    | some c => exact absurd hXn (hJ _ hb (by rw [hx]; simp))
  have hG : overlay Sj.get X r.g.next = none := by rw [overlay_none hXn]; exact W.fresh hS hb
  have hlt : r.g.next < h'.next := by
    obtain ⟨s', k', hfi⟩ := W.fi
    have := hfi.nx r (List.mem_of_getElem? K.here)
    rw [hnx] at this; simp only [Heap.next_add] at this; omega
  obtain ⟨gv, gO⟩ := h7 (i.upd r.g.next (w.heap.size, tot)) r.g.next (Emb.le_upd hi _) (Emb.upd_same _ _ _)
  have R' := R.add hi hG hlt (Nat.le_refl _) h2 h3 h4 h5 h6 gO
  have hov : ∀ Sj : Heap, updG (overlay Sj.get X) r.g.next ob = overlay Sj.get (updG X r.g.next ob) := by
    intro Sj; funext b; unfold updG overlay; by_cases h : b = r.g.next
    · simp [h]
    · simp [h]
  refine ⟨_, Emb.le_upd hi _, { closed := wayClosed W A K, pref := wayLight W A K hh, jle := A.jle, ext := ?_, rel := ?_, env := wayPut W A K (Emb.le_upd hi _) (by rw [hv]; exact gv), ds := by rw [put_defers]; exact A.ds.mono (Emb.le_upd hi _) }⟩
  · intro b ob'
    unfold updG
    by_cases h : b = r.g.next
    · rw [if_pos h]
      constructor
      · intro he; cases he
        exact ⟨p, r, K.here, setD_same _ _, ho, h.symm, hk⟩
      · rintro ⟨q, r', q1, q2, q3, q4, q5⟩
        have := W.uniq q1 K.here q3 ho (by rw [q4, h])
        subst this
        rw [K.here] at q1; cases q1
        rw [← q3, ho]
    · rw [if_neg h, A.ext b ob']
      constructor
      · rintro ⟨q, r', q1, q2, q3⟩
        refine ⟨q, r', q1, ?_, q3⟩
        by_cases hq : q = p
        · subst hq; exact setD_same _ _
        · rw [setD_ne hq]; exact q2
      · rintro ⟨q, r', q1, q2, q3, q4, q5⟩
        have : q ≠ p := by rintro rfl; rw [K.here] at q1; cases q1; exact h q4.symm
        exact ⟨q, r', q1, by rw [setD_ne this] at q2; exact q2, q3, q4, q5⟩
  · intro S2 hS2
    rw [hS] at hS2; cases hS2
    refine ⟨by rw [← hov]; exact R', fun b hb2 hib => ?_⟩
    unfold updG
    by_cases h : b = r.g.next
    · rw [if_pos h]; simp
    · rw [if_neg h]
      unfold Emb.upd at hib
      rw [if_neg h] at hib
      exact hJ b hb2 hib

/-- What the extras are behind a heavy place. -/
def later (X : Nat → Option AObj) (n : Nat) : Nat → Option AObj := fun b => if n ≤ b then X b else none

theorem wayGn : r.heavy = true → r.ob = none ∧ r.g.next ≤ r.nx.next := by
  intro hh
  obtain ⟨_, lo, hi, st, _, _, _, hd, _⟩ := W.pl p r K.here
  cases hd with
  | skip h1 => rw [hh] at h1; cases h1
  | val h1 => rw [hh] at h1; cases h1
  | rd h1 => rw [hh] at h1; cases h1
  | new _ _ h1 => rw [hh] at h1; cases h1
  | noHeavy _ h2 h3 => exact ⟨h2, by rw [h3]; exact Nat.le_refl _⟩
  | heavy _ h2 h3 => exact ⟨h2, h3⟩

theorem wayLater (hh : r.heavy = true) : ∀ b ob, later X r.g.next b = some ob ↔ Ext rs (setD D p) (j + 1) b ob := by
  have hk := wayStage W A K hh
  obtain ⟨hob, hgn⟩ := wayGn W A K hh
  intro b ob
  unfold later
  constructor
  · intro h
    split at h
    · rename_i hle
      obtain ⟨q, r', q1, q2, q3, q4, q5⟩ := (A.ext b ob).1 h
      have hne : q ≠ p := by rintro rfl; rw [K.here] at q1; cases q1; rw [hob] at q3; cases q3
      refine ⟨q, r', q1, by rw [setD_ne hne]; exact q2, q3, q4, ?_⟩
      rcases Nat.lt_or_ge j r'.k with h1 | h1
      · exact h1
      · exfalso
        have hlt := W.kLt K.here q1 hh (by omega) hne
        have := W.nxLe q1 K.here hlt
        obtain ⟨_, hnx, _⟩ := W.obOf q1 q3
        rw [hnx] at this; simp only [Heap.next_add] at this; omega
    · cases h
  · rintro ⟨q, r', q1, q2, q3, q4, q5⟩
    have hne : q ≠ p := by rintro rfl; rw [K.here] at q1; cases q1; omega
    rw [setD_ne hne] at q2
    have hlt : p < q := by
      rcases Nat.lt_trichotomy p q with h | h | h
      · exact h
      · exact absurd h.symm hne
      · exfalso
        obtain ⟨_, lo, hi, st, _, _, hpre, _⟩ := W.pl p r K.here
        have := hpre.kle r' (List.mem_of_getElem? (i := q) (by rw [List.getElem?_take_of_lt h]; exact q1))
        omega
    have := W.nxLe K.here q1 hlt
    rw [if_pos (by omega)]
    exact (A.ext b ob).2 ⟨q, r', q1, q2, q3, q4, by omega⟩

theorem wayLaterLe (hh : r.heavy = true) {b : Nat} {ob : AObj} (h : later X r.g.next b = some ob) : ob.own = true ∧ r.nx.next ≤ b := by
  obtain ⟨q, r', q1, q2, q3, q4, q5⟩ := (wayLater W A K hh b ob).1 h
  have hk := wayStage W A K hh
  have hlt : p < q := by
    rcases Nat.lt_trichotomy p q with h | h | h
    · exact h
    · subst h; rw [K.here] at q1; cases q1; omega
    · exfalso
      obtain ⟨_, lo, hi, st, _, _, hpre, _⟩ := W.pl p r K.here
      have := hpre.kle r' (List.mem_of_getElem? (i := q) (by rw [List.getElem?_take_of_lt h]; exact q1))
      omega
  have := W.nxLe K.here q1 hlt
  obtain ⟨_, _, _, mk, hop, _⟩ := W.obOf q1 q3
  obtain ⟨_, lo, hi, st, _, _, hpre, _⟩ := W.pl q r' q1
  exact ⟨own_new W.tab hpre.wit rfl hop, by omega⟩

theorem wayOverlay (hh : r.heavy = true) {Sj : Heap} (hS : fin[j]? = some Sj) : overlay Sj.get X = overlay r.g.get (later X r.g.next) := by
  have hk := wayStage W A K hh
  obtain ⟨hob, hgn⟩ := wayGn W A K hh
  obtain ⟨_, lo, hi, st, hp, _, hpre, _⟩ := W.pl p r K.here
  have hs : Sj = r.s := by
    have := W.stage K.here
    rw [hk, hS] at this; cases this; rfl
  subst hs
  funext b
  cases hX : X b with
  | none =>
    have h1 : later X r.g.next b = none := by unfold later; split <;> simp [hX]
    rw [overlay_none hX, overlay_none h1]
    cases hb : r.s.get b with
    | some o => exact (hpre.g1 b o hb).symm
    | none =>
      cases hg : r.g.get b with
      | none => rfl
      | some o =>
        exfalso
        rcases hpre.g2 b (by rw [hg]; simp) with h | ⟨r', m1, m2, m3, m4⟩
        · exact h hb
        · obtain ⟨q, hq⟩ := List.mem_iff_getElem?.1 m1
          have hqp : q < p := by
            have := (List.getElem?_eq_some_iff.1 hq).1
            rw [List.length_take] at this; omega
          rw [List.getElem?_take_of_lt hqp] at hq
          obtain ⟨ob, hob'⟩ := Option.isSome_iff_exists.1 m3
          obtain ⟨_, _, _, mk, hop, _⟩ := W.obOf hq hob'
          obtain ⟨_, lo, hi, st, hpq, _⟩ := W.pl q r' hq
          have hD := K.anc q (hpq.alloc (kind_new hop) p (by rw [m2]; exact W.hsAt p r K.here hh))
          have : X b = some ob := (A.ext b ob).2 ⟨q, r', hq, hD, hob', m4, by omega⟩
          rw [hX] at this; cases this
  | some ob =>
    rw [overlay_some hX]
    by_cases hle : r.g.next ≤ b
    · have : later X r.g.next b = some ob := by unfold later; rw [if_pos hle]; exact hX
      rw [overlay_some this]
    · have h1 : later X r.g.next b = none := by unfold later; rw [if_neg hle]
      rw [overlay_none h1]
      obtain ⟨q, r', q1, q2, q3, q4, q5⟩ := (A.ext b ob).1 hX
      have hlt : q < p := by
        rcases Nat.lt_trichotomy p q with h | h | h
        · have := W.nxLe K.here q1 h; omega
        · subst h; rw [K.here] at q1; cases q1; rw [hob] at q3; cases q3
        · exact h
      have hm : r' ∈ rs.take p := List.mem_of_getElem? (i := q) (by rw [List.getElem?_take_of_lt hlt]; exact q1)
      have := hpre.kle r' hm
      rw [← q4]
      exact (hpre.g3 r' hm (by omega) ob q3).symm

/-- Behind a heavy place. -/
theorem wayBehind (hh : r.heavy = true) {i' : Emb} (hi : i.Le i') {x : Value} (gv : VRel i' r.v x) {w' : World} (R : Rel S F i' (overlay r.nx.get (later X r.g.next)) h'.next w')
    (hJ : ∀ b, r.nx.next ≤ b → i' b ≠ none → later X r.g.next b ≠ none) : At S e₀ ms hs rs fin h' F ds (setD D p) (j + 1) (later X r.g.next) i' (a.put r.o.dst x) w' := by
  have hk := wayStage W A K hh
  obtain ⟨_, lo, hi', st, _, _, _, _, hfin⟩ := W.pl p r K.here
  have hat := W.hsAt p r K.here hh
  refine { closed := wayClosed W A K, pref := wayHeavy W A K hh, jle := ?_, ext := wayLater W A K hh, rel := ?_, env := wayPut W A K hi gv, ds := by rw [put_defers]; exact A.ds.mono hi }
  · have := (List.getElem?_eq_some_iff.1 hat).1; omega
  · intro S2 hS2
    rw [← hk, hfin hh] at hS2; cases hS2
    exact ⟨R, hJ⟩

theorem way_op {ops : Array Oper} (hall : all = ops.toList) {rr : Option Nat} {Q : Exit → Act → World → Prop} {Kf : Act → World → Prop}
    (hK : ∀ j' X' i' a' w', i.Le i' → At S e₀ ms hs rs fin h' F ds (setD D p) j' X' i' a' w' → Kf a' w') : wpOpIn (fc rr) 0 C.P ops Q p Kf a w := by
  obtain ⟨hop, lo, hi, st, hp, _, hpre, hdo, hfin⟩ := W.pl p r K.here
  have hops : ops[p]? = some r.o := by rw [hall] at hop; simpa using hop
  have hwr : ∀ b, wanted all r.e r.o = some b → Region.wanted r.o (yielded ops a.tmps) = b := by
    intro b hb
    have := wanted_ok A.env (by rw [wayWanted W A K]; exact hb)
    rw [hall] at this; simpa using this
  have gu : ∀ i : Emb, VRel i (.tup []) undef := by intro i; simp only [VRel]; exact ⟨[], by simp [VRels], rfl⟩
  have ec := wayOpd W A K
  unfold wpOpIn
  rw [hops]
  simp only
  have hC := W.tab
  cases hdo with
  | skip h1 h2 h3 h4 h5 =>
    rw [hwr _ h4]
    simp only [Bool.false_eq_true, if_false]
    exact ⟨fun _ _ => trivial, hK _ _ _ _ _ (Emb.Le.refl _) (wayPlain W A K h1 h2 (by rw [h5]; exact gu i))⟩
  | val h1 h2 h3 h4 h5 =>
    rw [hwr _ h4, if_pos rfl]
    have hv : opEval C (envL D 0 rs e₀) r.s r.g r.o.op = .val r.v := by rw [opEval_congr ec]; exact h5
    obtain ⟨x, hx, gv⟩ := val_ok hC w A.env hv
    exact value_ok (noDefer (C := C) (e := envL D 0 rs e₀) (s := r.s) (gg := r.g) (by rw [hv]; simp)) hx (hK _ _ _ _ _ (Emb.Le.refl _) (wayPlain W A K h1 h2 gv))
  | rd h1 h2 h3 h4 h5 h6 =>
    rw [hwr _ h4, if_pos rfl]
    obtain ⟨Sj, hS⟩ := wayNow W A K
    obtain ⟨gg, hv⟩ := wayRead W A K (kind_rd h5) hp h5 h6 hS
    obtain ⟨x, hx, gv⟩ := rd_ok hC (wayObjs W A K hS) A.env hv
    exact value_ok (noDefer (C := C) (e := envL D 0 rs e₀) (s := Sj) (gg := gg) (by rw [hv]; simp)) hx (hK _ _ _ _ _ (Emb.Le.refl _) (wayPlain W A K h1 h2 gv))
  | new ob mk h1 h2 h3 h4 h5 h6 =>
    rw [hwr _ h4, if_pos rfl]
    have hv : opEval C (envL D 0 rs e₀) r.s r.g r.o.op = .new ob mk := by rw [opEval_congr ec]; exact h5
    obtain ⟨m, hm, x, w', O, tot, q1, q2, q3, q4, q5, q6, q7⟩ := new_ok (S := S) (w := w) hC A.env hv
    obtain ⟨i', hi', A'⟩ := wayNew W A K h2 (x := x) (w' := w') (O := O) (tot := tot) (mk := mk) h6 q2 q3 q4 q5 q6 q7
    exact value_ok (noDefer (C := C) (e := envL D 0 rs e₀) (s := r.s) (gg := r.g) (by rw [hv]; simp)) (by rw [hm]; simp only [Sem.run_bind, q1, Result.andThen_ok, Sem.run_pure]) (hK _ _ _ _ _ hi' A')
  | noHeavy h1 h2 h3 h4 h5 =>
    rw [hwr _ h4]
    simp only [Bool.false_eq_true, if_false]
    obtain ⟨Sj, hS⟩ := wayNow W A K
    obtain ⟨R, hJ⟩ := A.rel Sj hS
    rw [wayOverlay W A K h1 hS] at R
    have hk := wayStage W A K h1
    have hs : Sj = r.s := by have := W.stage K.here; rw [hk, hS] at this; cases this; rfl
    refine ⟨fun _ _ => trivial, hK _ _ _ _ _ (Emb.Le.refl _) (wayBehind W A K h1 (Emb.Le.refl _) (by rw [h5]; exact gu i) (by rw [h3]; exact R) ?_)⟩
    intro b hb hib
    rw [h3] at hb
    unfold later; rw [if_pos hb]
    exact hJ b (by rw [hs]; exact Nat.le_trans hpre.g4 hb) hib
  | heavy h1 h2 h3 h4 h5 =>
    rw [hwr _ h4, if_pos rfl]
    obtain ⟨Sj, hS⟩ := wayNow W A K
    obtain ⟨R, hJ⟩ := A.rel Sj hS
    rw [wayOverlay W A K h1 hS] at R
    have hk := wayStage W A K h1
    have hs : Sj = r.s := by have := W.stage K.here; rw [hk, hS] at this; cases this; rfl
    have hJ' : ∀ b, r.g.next ≤ b → i b ≠ none → later X r.g.next b ≠ none := by
      intro b hb hib
      unfold later; rw [if_pos hb]
      exact hJ b (by rw [hs]; exact Nat.le_trans hpre.g4 hb) hib
    obtain ⟨F₂, i₂, a₂, w₂, R₂, g₂⟩ := hpre.wit
    obtain ⟨F', R', back⟩ := part_step R (fun b o hb => ⟨(wayLaterLe W A K h1 hb).1, Nat.le_trans h3 (wayLaterLe W A K h1 hb).2⟩) hJ' ⟨F₂, i₂, w₂, R₂⟩
    have hlow : Low i₂ r.g.next := fun b hb => (R₂.fresh b hb).1
    have hNn : r.nx.next ≤ h'.next := by
      obtain ⟨s', k', hfi⟩ := W.fi
      exact hfi.nx r (List.mem_of_getElem? K.here)
    -- the environment of the operands alone
    let ns := tmpsOf r.o.op.operands.toList
    have hn : r.e.n = e₀.n := by rw [hpre.env, envL_n]
    have hget : ∀ t, t ∈ ns → (maskEnv r.e ns).get t = r.e.get t := by
      intro t ht
      rw [maskEnv_get, if_pos (by have := lt_bound ht; omega), if_pos ht]
    refine h5 (maskEnv r.e ns) rfl ?_ F' (restr i r.g.next) rr a w R' ?_ Kf Q ?_
    · intro x hx
      cases x with
      | tmp t => simp only [opd, hget t (tmpsOf_mem hx)]
      | const v => rfl
      | global g => rfl
      | func f => rfl
    · refine ⟨?_, fun t => ?_⟩
      · have := A.env.1; rw [envL_n] at this; rw [this, ← hn]; rfl
      · rw [maskEnv_get]
        by_cases hb : t < r.e.n + bound ns
        · rw [if_pos hb]
          by_cases hm : t ∈ ns
          · rw [if_pos hm]
            have h1 := A.env.2 t
            rw [wayEnv W A K (by simp only [namesOf, List.mem_append]; exact .inl (.inr hm))] at h1
            exact VRel.both hlow _ _ _ (g₂.2 t) h1
          · rw [if_neg hm]; simp only [VRel]
        · rw [if_neg hb]
          have hsz : a.tmps.size ≤ t := by have := A.env.1; rw [envL_n] at this; omega
          have : a.tmps.getD t undef = undef := by rw [Array.getD_eq_getD_getElem?, Array.getElem?_eq_none hsz]; rfl
          rw [this]; exact gu _
    · intro k x w' hk' gv R3
      obtain ⟨i₁, l1, l2, R4, J4⟩ := back r.nx k w' hk' R3 h3 (fun b o hb => (wayLaterLe W A K h1 hb).2) hNn
      exact hK _ _ _ _ _ l1 (wayBehind W A K h1 l1 (gv.mono l2) R4 J4)

end
end
end Go.Ev
