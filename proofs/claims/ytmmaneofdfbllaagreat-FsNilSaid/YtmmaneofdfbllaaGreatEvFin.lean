/-
  EvFin: the evaluator is sound. No condition.
-/
import Derived.Test.YtmmaneofdfbllaaGreatEvDraws
set_option linter.unusedVariables false
set_option linter.unusedSimpArgs false
set_option linter.unusedSectionVars false
namespace Go.Ev
noncomputable section

section
variable {C : Ctx} {S : String → Code → Prop} {all : List Oper} {e₀ : Env} {ms hs : List Nat} {rs : List Rc} {fin : List Heap} {e' : Env} {h' : Heap}

theorem binds_any (x : Edge) : Region.binds .any x = binding x.ground := by
  unfold Region.binds binding
  cases x.ground <;> rfl

/-- How many are not yet listed. -/
def left (l : List Bool) : Nat := l.countP (fun b => !b)
theorem left_set {l : List Bool} {p : Nat} (h : l[p]? = some false) : left (l.set p true) + 1 = left l := by
  unfold left
  have hp := (List.getElem?_eq_some_iff.1 h).1
  have hv := (List.getElem?_eq_some_iff.1 h).2
  have : ∀ (l : List Bool) (p : Nat) (hp : p < l.length), l[p] = false → (l.set p true).countP (fun b => !b) + 1 = l.countP (fun b => !b) := by
    intro l
    induction l with
    | nil => intro p hp; simp at hp
    | cons x l ih =>
      intro p hp hx
      cases p with
      | zero => simp only [List.getElem_cons_zero] at hx; subst hx; simp
      | succ p =>
        have := ih p (by simpa using hp) (by simpa using hx)
        simp only [List.set_cons_succ, List.countP_cons]; omega
  exact this l p hp hv

theorem way_all (W : Way C S all e₀ ms hs rs fin e' h') {ops : Array Oper} (hall : all = ops.toList) (hback : ∀ p o, all[p]? = some o → edgesBack p o.after.toList = true)
    {F : Fr} {ds : List Nat} {i₀ : Emb} {rr : Option Nat} : ∀ (fuel : Nat) (listed : Array Bool), listed.size = ops.size → left listed.toList ≤ fuel →
      ∀ (j : Nat) (X : Nat → Option AObj) (i : Emb) (a : Act) (w : World), i₀.Le i → At S e₀ ms hs rs fin h' F ds (fun q => listed.getD q false) j X i a w →
      wpAnyIn (fc rr) 0 C.P .any ops (Behind S F i₀ .normal ds e' h') fuel listed a w := by
  have hlen : rs.length = ops.size := by rw [W.len, hall, Array.length_toList]
  -- all is done
  have done : ∀ (listed : Array Bool), listed.size = ops.size → Region.ready .any ops listed = [] → ∀ (j : Nat) (X : Nat → Option AObj) (i : Emb) (a : Act) (w : World), i₀.Le i → At S e₀ ms hs rs fin h' F ds (fun q => listed.getD q false) j X i a w →
      Behind S F i₀ .normal ds e' h' .normal a w := by
    intro listed hsz hready j X i a w hi A
    have hD : ∀ p, p < ops.size → listed.getD p false = true := by
      intro p
      induction p using Nat.strongRecOn with
      | _ p ih =>
        intro hp
        cases hx : listed.getD p false with
        | true => rfl
        | false =>
          exfalso
          have hin : p ∈ Region.ready .any ops listed := by
            rw [mem_ready]
            refine ⟨?_, ops[p], Array.getElem?_eq_getElem hp, fun x hxm hb => ?_⟩
            · rw [Array.getD_eq_getD_getElem?, Array.getElem?_eq_getElem (by omega)] at hx ⊢
              exact hx
            · rw [binds_any] at hb
              have hlt := back_at (hback p ops[p] (by rw [hall]; simp [hp])) x (by simpa using hxm) hb
              exact ih x.on hlt (by omega)
          rw [hready] at hin; simp at hin
    obtain ⟨s', k', hfi⟩ := W.fi
    have hj : j = hs.length := by
      have := A.jle
      rcases Nat.lt_or_ge j hs.length with h | h
      · exfalso
        have hq : hs[j]? = some hs[j] := List.getElem?_eq_getElem h
        obtain ⟨r', hr', _⟩ := W.hsOf _ _ hq
        have hlt := (List.getElem?_eq_some_iff.1 hr').1
        have := (A.pref j _ hq).1 (hD _ (by omega))
        omega
      · omega
    have hk : k' = j := by rw [hfi.cnt, ← W.hsLen, hj]
    have hS : fin[j]? = some s' := by rw [← hk]; exact hfi.stk
    obtain ⟨R, hJ⟩ := A.rel s' hS
    have hov : overlay s'.get X = h'.get := by
      funext b
      cases hX : X b with
      | some ob =>
        rw [overlay_some hX]
        obtain ⟨q, r', q1, q2, q3, q4, q5⟩ := (A.ext b ob).1 hX
        have hm := List.mem_of_getElem? q1
        have := hfi.kle r' hm
        rw [← q4]
        exact (hfi.g3 r' hm (by omega) ob q3).symm
      | none =>
        rw [overlay_none hX]
        cases hb : s'.get b with
        | some o => exact (hfi.g1 b o hb).symm
        | none =>
          cases hg : h'.get b with
          | none => rfl
          | some o =>
            exfalso
            rcases hfi.g2 b (by rw [hg]; simp) with h | ⟨r', m1, m2, m3, m4⟩
            · exact h hb
            · obtain ⟨q, hq⟩ := List.mem_iff_getElem?.1 m1
              obtain ⟨ob, hob⟩ := Option.isSome_iff_exists.1 m3
              have hlt := (List.getElem?_eq_some_iff.1 hq).1
              have : X b = some ob := (A.ext b ob).2 ⟨q, r', hq, hD q (by omega), hob, m4, by omega⟩
              rw [hX] at this; cases this
    refine ⟨rfl, i, hi, ?_, ?_, A.ds⟩
    · rw [← hov]; exact R
    · have g := A.env
      have he : envL (fun q => listed.getD q false) 0 rs e₀ = e' := by
        rw [hfi.env]
        have : ∀ (l : List Rc) (k : Nat) (e : Env), k + l.length ≤ ops.size → envL (fun q => listed.getD q false) k l e = envL (fun _ => true) k l e := by
          intro l
          induction l with
          | nil => intro k e _; rfl
          | cons x l ih =>
            intro k e hk
            simp only [List.length_cons] at hk
            simp only [envL, hD k (by omega), if_true]
            exact ih (k + 1) _ (by omega)
        exact this rs 0 e₀ (by omega)
      rw [he] at g; exact g
  -- one more
  have more : ∀ (fuel : Nat) (listed : Array Bool), listed.size = ops.size → left listed.toList ≤ fuel + 1 → (∀ (listed : Array Bool), listed.size = ops.size → left listed.toList ≤ fuel →
      ∀ (j : Nat) (X : Nat → Option AObj) (i : Emb) (a : Act) (w : World), i₀.Le i → At S e₀ ms hs rs fin h' F ds (fun q => listed.getD q false) j X i a w → wpAnyIn (fc rr) 0 C.P .any ops (Behind S F i₀ .normal ds e' h') fuel listed a w) →
      ∀ (j : Nat) (X : Nat → Option AObj) (i : Emb) (a : Act) (w : World), i₀.Le i → At S e₀ ms hs rs fin h' F ds (fun q => listed.getD q false) j X i a w → ∀ p ∈ Region.ready .any ops listed,
      wpOpIn (fc rr) 0 C.P ops (Behind S F i₀ .normal ds e' h') p (wpAnyIn (fc rr) 0 C.P .any ops (Behind S F i₀ .normal ds e' h') fuel (listed.setIfInBounds p true)) a w := by
    intro fuel listed hsz hl ih j X i a w hi A p hp
    rw [mem_ready] at hp
    obtain ⟨h0, o, ho, hedge⟩ := hp
    have hlt : p < ops.size := (Array.getElem?_eq_some_iff.1 ho).1
    have hr : rs[p]? = some rs[p] := List.getElem?_eq_getElem (by omega)
    have hout : listed[p]? = some false := by
      rw [Array.getD_eq_getD_getElem?, Array.getElem?_eq_getElem (by omega)] at h0
      rw [Array.getElem?_eq_getElem (by omega)]
      simpa using h0
    have hro : rs[p].o = o := by
      have := (W.pl p _ hr).1
      rw [hall] at this
      have h2 : ops.toList[p]? = some o := by simpa using ho
      rw [h2] at this; cases this; rfl
    have K : Ready ms rs (fun q => listed.getD q false) p rs[p] := by
      refine ⟨hr, by show listed.getD p false = false; rw [Array.getD_eq_getD_getElem?, hout]; rfl, fun q hq => ?_⟩
      obtain ⟨x, hx, hb, hor⟩ := W.mask p o q (by rw [hall]; simpa using ho) hq
      have hxl : listed.getD x.on false = true := hedge x (by simpa using hx) (by rw [binds_any]; exact hb)
      rcases hor with rfl | hq2
      · exact hxl
      · exact A.closed x.on hxl q hq2
    refine way_op W A K hall fun j' X' i' a' w' hi' A' => ?_
    refine ih _ (by simpa using hsz) ?_ j' X' i' a' w' (hi.trans hi') ?_
    · have := left_set (l := listed.toList) (p := p) (by simpa using hout)
      rw [Array.toList_setIfInBounds]; omega
    · have : (fun q => (listed.setIfInBounds p true).getD q false) = setD (fun q => listed.getD q false) p := by
        funext q
        unfold setD
        by_cases h : q = p
        · subst h; rw [if_pos rfl]
          simp [Array.getD_eq_getD_getElem?, show q < listed.size by omega]
        · rw [if_neg h]; exact getD_set_ne false (fun hh => h hh.symm)
      rw [this]; exact A'
  intro fuel
  induction fuel with
  | zero =>
    intro listed hsz hl j X i a w hi A
    have hready : Region.ready .any ops listed = [] := by
      cases hx : Region.ready .any ops listed with
      | nil => rfl
      | cons p l =>
        exfalso
        have hp : p ∈ Region.ready .any ops listed := by rw [hx]; simp
        rw [mem_ready] at hp
        obtain ⟨h0, o, ho, _⟩ := hp
        have hlt : p < ops.size := (Array.getElem?_eq_some_iff.1 ho).1
        have hout : listed.toList[p]? = some false := by
          rw [Array.getD_eq_getD_getElem?, Array.getElem?_eq_getElem (by omega)] at h0
          rw [Array.getElem?_toList, Array.getElem?_eq_getElem (by omega)]
          simpa using h0
        have := left_set hout
        omega
    exact ⟨hready, done listed hsz hready j X i a w hi A⟩
  | succ fuel ih =>
    intro listed hsz hl j X i a w hi A
    exact ⟨fun hready => done listed hsz hready j X i a w hi A, fun p hp => more fuel listed hsz hl ih j X i a w hi A p hp⟩

/-- REGIONS THAT DRAW GO THROUGH. -/
theorem draws_ok (hC : C.Tab) (hm : C.P.follows .mixedOrders = true) : DrawsOk C S := by
  intro id ops lp ds e h e' h' hplan T F i₀ rr a₀ w₀ R₀ g₀ d₀
  unfold plan at hplan
  simp only at hplan
  cases hch : chained (masks ops.toList []) (heavies C ops.toList 0) with
  | false => rw [hch] at hplan; simp at hplan
  | true =>
  rw [hch, cond_true] at hplan
  obtain ⟨hl, hat⟩ := planFrom_at hplan
  have hstart : Pre S e [] [h].reverse e h h 0 := by
    refine { env := rfl, cnt := rfl, wit := ⟨F, i₀, a₀, w₀, R₀, g₀⟩, stl := rfl, stk := rfl, mono := ?_, sfresh := fun b hb => (R₀.fresh b hb).2, stf := ?_, g1 := fun _ _ h => h, g2 := fun b hb => .inl hb, g3 := fun _ h => (by simp at h), g4 := Nat.le_refl _, nx := fun _ h => (by simp at h), kle := fun _ h => (by simp at h) }
    · intro s' hs; simp only [List.reverse_cons, List.reverse_nil, List.nil_append, List.mem_singleton] at hs; subst hs; exact Nat.le_refl _
    · intro s' hs; simp only [List.reverse_cons, List.reverse_nil, List.nil_append, List.mem_singleton] at hs; subst hs; exact fun b hb => (R₀.fresh b hb).2
  obtain ⟨rs, fin, s', k', hlen, _, ⟨z, hz⟩, hend, hpl⟩ := trace (e₀ := e) hC T [] 0 hstart
  simp only [List.nil_append] at hend hpl
  have hlen' : rs.length = ops.toList.length := by rw [hlen, hl]
  have hop : ∀ (p : Nat) (r : Rc), rs[p]? = some r → ops.toList[p]? = some r.o ∧ r.heavy = isHeavy (kindOf C r.o.op) := by
    intro p r hr
    obtain ⟨lo, hi, st, q1, _, _, _, q5, _⟩ := hpl p r hr
    exact ⟨(hat p r.o lo hi q1).1, q5⟩
  have hcnt : ∀ p, cntH (rs.take p) = cntK C (ops.toList.take p) := fun p => cnt_same p hlen' hop
  have hk : ∀ (p : Nat) (r : Rc), rs[p]? = some r → r.k = cntK C (ops.toList.take p) := by
    intro p r hr
    obtain ⟨lo, hi, st, _, _, q3, _⟩ := hpl p r hr
    rw [q3.cnt, hcnt]
  have W : Way C S ops.toList e (masks ops.toList []) (heavies C ops.toList 0) rs fin e' h' := by
    refine { tab := hC, len := hlen', pl := ?_, fi := ⟨s', k', hend⟩, hsAt := ?_, hsOf := ?_, hsLen := ?_, chain := fun x a b h1 h2 => chained_at hch h1 h2, mask := ?_ }
    · intro p r hr
      obtain ⟨lo, hi, st, q1, q2, q3, q4, q5, q6⟩ := hpl p r hr
      obtain ⟨m1, m2⟩ := hat p r.o lo hi q1
      refine ⟨m1, lo, hi, st, ?_, q2, q3, q4, q6⟩
      rw [hk p r hr]
      simpa using m2
    · intro p r hr hh
      obtain ⟨h1, h2⟩ := hop p r hr
      have := heavies_at ops.toList 0 p r.o h1 (by rw [← h2]; exact hh)
      rw [hk p r hr]; simpa using this
    · intro x q hq
      obtain ⟨p, o, h1, h2, h3, h4⟩ := heavies_of ops.toList 0 x q hq
      have : p = q := by omega
      subst this
      have hlt : p < rs.length := by rw [hlen']; exact (List.getElem?_eq_some_iff.1 h2).1
      have hr : rs[p]? = some rs[p] := List.getElem?_eq_getElem hlt
      obtain ⟨g1, g2⟩ := hop p _ hr
      rw [h2] at g1
      simp only [Option.some.injEq] at g1
      exact ⟨rs[p], hr, by rw [g2, ← g1]; exact h3, by rw [hk p _ hr, h4]⟩
    · rw [heavies_length]
      have := hcnt rs.length
      rw [List.take_of_length_le (Nat.le_refl _), List.take_of_length_le (by omega)] at this
      exact this.symm
    · intro p o q ho hq
      have := masks_at ops.toList [] p o ho q (by simpa using hq)
      exact this
  have hback : ∀ p o, ops.toList[p]? = some o → edgesBack p o.after.toList = true := by
    intro p o ho
    have hlt : p < rs.length := by rw [hlen']; exact (List.getElem?_eq_some_iff.1 ho).1
    have hr : rs[p]? = some rs[p] := List.getElem?_eq_getElem hlt
    obtain ⟨g1, lo, hi, st, g2, _⟩ := W.pl p _ hr
    rw [ho] at g1
    simp only [Option.some.injEq] at g1
    rw [g1]; exact g2.back
  refine wpIn_region_any hm ?_
  have hD0 : (fun q => (Array.replicate ops.size false).getD q false) = fun _ => false := by
    funext q
    rw [Array.getD_eq_getD_getElem?, Array.getElem?_replicate]
    split <;> rfl
  have hzero : ∀ (l : List Rc) (k : Nat) (e : Env), envL (fun _ => false) k l e = e := by
    intro l
    induction l with
    | nil => intro k e; rfl
    | cons x l ih => intro k e; simp only [envL, Bool.false_eq_true, if_false]; exact ih _ _
  refine way_all W rfl hback ops.size _ (by simp) ?_ 0 (fun _ => none) i₀ a₀ _ (Emb.Le.refl _) ?_
  · have := List.countP_le_length (p := fun b => !b) (l := (Array.replicate ops.size false).toList)
    simpa [left] using this
  · rw [hD0]
    refine { closed := fun p hp => (by cases hp), pref := fun x q _ => (by simp), jle := Nat.zero_le _, ext := ?_, rel := ?_, env := (by rw [hzero]; exact g₀), ds := d₀ }
    · intro b ob
      constructor
      · intro h; cases h
      · rintro ⟨q, r, _, hq, _⟩; cases hq
    · intro Sj hS
      rw [hz] at hS
      simp only [List.reverse_cons, List.reverse_nil, List.nil_append, List.singleton_append, List.getElem?_cons_zero, Option.some.injEq] at hS
      subst hS
      have : overlay h.get (fun _ => none) = h.get := by funext b; rfl
      rw [this]
      have R₁ : Rel S F i₀ h.get h.next { w₀ with drawn := w₀.drawn + 1 } := R₀.world rfl rfl rfl rfl
      refine ⟨R₁.raise ?_, fun b hb hib => absurd (R₀.fresh b hb).1 hib⟩
      have := hend.mono h (by rw [hz]; simp)
      exact Nat.le_trans this hend.g4

/-- THE EVALUATOR IS SOUND. -/
theorem sound (hC : C.Tab) (hm : C.P.follows .mixedOrders = true) (hF : FnsOk C S) (hS : SumsOk C S) (hcs : CsumsOk C S) (hnm : NamesOk C S) (n : Nat) : RecOk C S (run C n) :=
  run_ok { tab := hC, fns := hF, sums := hS, csums := hcs, names := hnm, draws := draws_ok hC hm } n

end
end
end Go.Ev
