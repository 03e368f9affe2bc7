/-
  EvPureB: operations that touch no memory, more. No condition.
-/
import Derived.Test.YtmmaneofdfbllaaGreatEvPure
set_option linter.unusedVariables false
set_option linter.unusedSimpArgs false
set_option linter.unusedSectionVars false
namespace Go.Ev
noncomputable section

section
variable {C : Ctx} (hC : C.Tab) {i : Emb}
include hC

/-- What an equality of parts must meet. -/
def EqOk (P : Program) (i : Emb) (d : Nat) (eq : TypeId → AV → AV → Option Bool) : Prop :=
  ∀ (w : World) (t : TypeId) (x y : AV) (u v : Value) (b : Bool), eq t x y = some b → VRel i x u → VRel i y v → (Op.equalIn d t u v).run P w = .ok b w

theorem eqFields_ok {d : Nat} {eq : TypeId → AV → AV → Option Bool} (he : EqOk C.P i d eq) (w : World) {xs ys : List AV} {us vs : List Value} (hx : VRels i xs us) (hy : VRels i ys vs) :
    ∀ {fs : List Field} {b : Bool}, eqFields eq C xs ys fs = some b → (Op.eqFields d us.toArray vs.toArray fs).run C.P w = .ok b w
  | [], b, h => by simp only [eqFields, Option.some.injEq] at h; subst h; rfl
  | f :: fs, b, h => by
    simp only [eqFields] at h
    cases hn : f.name == "_" with
    | true => simp [hn] at h
    | false =>
      have hn' : f.name ≠ "_" := by simpa using hn
      simp only [hn, cond_false] at h
      split at h
      · rename_i p q hp hq
        obtain ⟨u, hu, ru⟩ := part_ok hC w hp hx
        obtain ⟨v, hv, rv⟩ := part_ok hC w hq hy
        split at h
        · rename_i heq
          have := he w _ _ _ _ _ _ heq ru rv
          simp only [Op.eqFields, if_pos hn', Sem.run_bind, hu, hv, this, Result.andThen_ok, Bool.not_true, Bool.false_eq_true, if_false]
          exact eqFields_ok he w hx hy h
        · rename_i heq
          simp only [Option.some.injEq] at h; subst h
          have := he w _ _ _ _ _ _ heq ru rv
          simp only [Op.eqFields, if_pos hn', Sem.run_bind, hu, hv, this, Result.andThen_ok, Bool.not_false, if_true, Sem.run_pure]
        · exact absurd h (by simp)
      · exact absurd h (by simp)

theorem eqElems_ok {d : Nat} {eq : TypeId → AV → AV → Option Bool} (he : EqOk C.P i d eq) (w : World) {t : TypeId} {n : Nat} {xs ys : List AV} {us vs : List Value} (hx : VRels i xs us) (hy : VRels i ys vs) :
    ∀ {k j : Nat} {b : Bool}, eqElems (eq t) C t n xs ys k j = some b → (Op.eqItems d t n us.toArray vs.toArray (List.range' j k)).run C.P w = .ok b w
  | 0, j, b, h => by simp only [eqElems, Option.some.injEq] at h; subst h; rfl
  | k + 1, j, b, h => by
    simp only [eqElems] at h
    split at h
    · rename_i p q hp hq
      obtain ⟨u, hu, ru⟩ := part_ok hC w hp hx
      obtain ⟨v, hv, rv⟩ := part_ok hC w hq hy
      split at h
      · rename_i heq
        have := he w _ _ _ _ _ _ heq ru rv
        simp only [List.range'_succ, Op.eqItems, Sem.run_bind, hu, hv, this, Result.andThen_ok, Bool.not_true, Bool.false_eq_true, if_false]
        exact eqElems_ok he w hx hy h
      · rename_i heq
        simp only [Option.some.injEq] at h; subst h
        have := he w _ _ _ _ _ _ heq ru rv
        simp only [List.range'_succ, Op.eqItems, Sem.run_bind, hu, hv, this, Result.andThen_ok, Bool.not_false, if_true, Sem.run_pure]
      · exact absurd h (by simp)
    · exact absurd h (by simp)

theorem eqIn_ok : ∀ (d : Nat), EqOk C.P i d (eqIn C d)
  | 0 => fun w t x y u v b h => by simp [eqIn] at h
  | d + 1 => fun w t x y u v b h hx hy => by
    have ih := eqIn_ok d
    unfold eqIn at h
    split at h
    case h_1 a c hd =>
      simp only [Option.some.injEq] at h; simp only [VRel] at hx hy; subst h hx hy
      exact run_equalIn_bool' w d t _ _ (und_ok hC hd)
    case h_2 k k' a k'' c hd =>
      rw [cond_beq] at h
      split at h
      · rename_i hk
        have := kidx_inj hk; subst this
        simp only [Option.some.injEq] at h; simp only [VRel] at hx hy; subst h hx hy
        rw [ieq_eq]
        exact run_equalIn_int w d t _ _ _ _ (und_ok hC hd)
      · exact absurd h (by simp)
    case h_3 a c hd =>
      simp only [Option.some.injEq] at h; simp only [VRel] at hx hy
      obtain ⟨p, rfl, hp⟩ := hx
      obtain ⟨q, rfl, hq⟩ := hy
      subst h hp hq
      rw [listEq_bytes]
      exact run_equalIn_string w d t _ _ (und_ok hC hd)
    case h_18 fs xs ys hd =>
      have hu := und_ok hC hd
      cases hst : C.P.stoodInHeld t with
      | true => simp [hst] at h
      | false =>
        simp only [hst, cond_false] at h
        simp only [VRel] at hx hy
        obtain ⟨us, hus, rfl⟩ := hx
        obtain ⟨vs, hvs, rfl⟩ := hy
        have hfo : C.P.fieldsOf t = fs := by simp [Program.fieldsOf, hu]
        rw [run_equalIn_struct w d t _ _ (by rw [hfo]; exact hu) hst, hfo]
        exact eqFields_ok hC ih w hus hvs h
    case h_19 len el xs ys hd =>
      have hu := und_ok hC hd
      split at h
      · rename_i n hn
        simp only [VRel] at hx hy
        obtain ⟨us, hus, rfl⟩ := hx
        obtain ⟨vs, hvs, rfl⟩ := hy
        obtain ⟨inf, hinf, hsz⟩ := size_ok hC hn
        rw [run_equalIn_array w d _ _ hu hinf]
        have : C.P.cellsOf el = n := by simp [Program.cellsOf, hinf, hsz]
        rw [this, List.range_eq_range']
        exact eqElems_ok hC ih w hus hvs h
      · exact absurd h (by simp)
    all_goals
      first
        | (simp only [Option.some.injEq] at h; subst h; simp only [VRel] at hx hy
           rename_i hd
           have hu := und_ok hC hd
           first
             | (subst hx hy; simp [Op.equalIn, run_underlying hu]; done)
             | (obtain ⟨_, _, rfl⟩ := hx; subst hy; simp [Op.equalIn, run_underlying hu]; done)
             | (obtain ⟨_, _, rfl⟩ := hy; subst hx; simp [Op.equalIn, run_underlying hu]; done)
             | (obtain ⟨_, _, _, rfl, _⟩ := hx; subst hy; simp [Op.equalIn, run_underlying hu]; done)
             | (obtain ⟨_, _, _, rfl, _⟩ := hy; subst hx; simp [Op.equalIn, run_underlying hu]; done)
             | (obtain ⟨_, _, _, _, rfl⟩ := hx; subst hy; simp [Op.equalIn, run_underlying hu]; done)
             | (obtain ⟨_, _, _, _, rfl⟩ := hy; subst hx; simp [Op.equalIn, run_underlying hu]; done))
        | exact absurd h (by simp)

theorem eqOp_ok (w : World) {t : TypeId} {x y : AV} {u v : Value} {b : Bool} (h : eqOp C t x y = some b) (hx : VRel i x u) (hy : VRel i y v) :
    (Op.equal t u v).run C.P w = .ok b w := by
  unfold eqOp at h
  split at h
  · cases hg : C.P.eqGuardType C.P.depth t with
    | true => simp [hg] at h
    | false =>
      simp only [hg, cond_false] at h
      exact eqIn_ok hC 10000 w t _ _ _ _ _ h hx hy
  · exact eqIn_ok hC 10000 w t _ _ _ _ _ h hx hy

omit hC in
theorem noIface {x : AV} {u : Value} (h : VRel i x u) (hk : x ≠ .unk) : u ≠ .nilIface := by
  rintro rfl
  cases x <;> simp [VRel] at h
  exact hk rfl
omit hC in
theorem isAggV {x : AV} {u : Value} (h : VRel i x u) (hk : x ≠ .unk) {cs : Array Value} (hu : u = .agg cs) : ∃ l, x = .agg l := by
  subst hu
  cases x <;> simp [VRel] at h
  · exact ⟨_, rfl⟩
  · exact absurd rfl hk

omit hC in
theorem eqGuard_ok (w : World) {op : BinOp} {t : TypeId} {x y : AV} {u v : Value} (hx : VRel i x u) (hy : VRel i y v) (kx : x ≠ .unk) (ky : y ≠ .unk) (p q : Operand)
    (h : ∀ l m, x = .agg l → y = .agg m → (op = .eql ∨ op = .neq) → C.P.eqGuardType C.P.depth t = false) : (eqGuard op t p q u v).run C.P w = .ok () w := by
  unfold eqGuard
  by_cases ho : op = .eql ∨ op = .neq
  · rcases ho with rfl | rfl
    all_goals
      simp only [Bool.not_true, Bool.false_eq_true, if_false]
      split
      · exact absurd rfl (noIface hx kx)
      · rename_i cs ds
        obtain ⟨l, rfl⟩ := isAggV hx kx rfl
        obtain ⟨m, rfl⟩ := isAggV hy ky rfl
        have := h l m rfl rfl (by simp)
        simp [this]
      · rfl
  · cases op <;> first | rfl | (exfalso; apply ho; simp)

omit hC in
theorem eqOp_guard {t : TypeId} {l m : List AV} {b : Bool} (h : eqOp C t (.agg l) (.agg m) = some b) : C.P.eqGuardType C.P.depth t = false := by
  unfold eqOp at h
  simp only at h
  cases hg : C.P.eqGuardType C.P.depth t with
  | true => simp [hg] at h
  | false => rfl

omit hC in
theorem binOp_eql (P : Program) (w : World) (t : TypeId) {x : AV} {u v : Value} (hx : VRel i x u) (kx : x ≠ .unk)
    (n1 : ∀ k a, x ≠ .int k a) (n2 : ∀ s, x ≠ .str s) : (binOp .eql t u v).run P w = ((do pure (.bool (← Op.equal t u v))) : Sem Value).run P w ∧
      (binOp .neq t u v).run P w = ((do pure (.bool (!(← Op.equal t u v)))) : Sem Value).run P w := by
  cases x <;> simp only [VRel] at hx
  case int k a => exact absurd rfl (n1 k a)
  case str s => exact absurd rfl (n2 s)
  case unk => exact absurd rfl kx
  all_goals
    first
      | (subst hx; exact ⟨rfl, rfl⟩)
      | (obtain ⟨_, _, rfl⟩ := hx; exact ⟨rfl, rfl⟩)
      | (obtain ⟨_, _, _, rfl, _⟩ := hx; exact ⟨rfl, rfl⟩)
      | (obtain ⟨_, _, _, _, rfl⟩ := hx; exact ⟨rfl, rfl⟩)

omit hC in
theorem eqIn_shape {d : Nat} {t : TypeId} {x y : AV} {b : Bool} (h : eqIn C d t x y = some b) :
    (∀ k a, x = .int k a → ∃ k' a', y = .int k' a') ∧ (∀ s, x = .str s → ∃ s', y = .str s') := by
  cases d with
  | zero => simp [eqIn] at h
  | succ d =>
    unfold eqIn at h
    split at h <;> (refine ⟨?_, ?_⟩ <;> (intros; first | exact ⟨_, _, rfl⟩ | exact ⟨_, rfl⟩ | (rename_i e; cases e; done) | (cases h; done)))
omit hC in
theorem eqOp_shape {t : TypeId} {x y : AV} {b : Bool} (h : eqOp C t x y = some b) :
    (∀ k a, x = .int k a → ∃ k' a', y = .int k' a') ∧ (∀ s, x = .str s → ∃ s', y = .str s') := by
  unfold eqOp at h
  split at h
  · exact ⟨fun _ _ e => (by cases e), fun _ e => (by cases e)⟩
  · exact eqIn_shape h

theorem bin_ok (w : World) {op : BinOp} {t : TypeId} {x y z : AV} {u v : Value} (hx : VRel i x u) (hy : VRel i y v) (kx : x ≠ .unk) (ky : y ≠ .unk) (p q : Operand)
    (h : binAV C op t x y = some z) :
    ∃ r, (do eqGuard op t p q u v; binOp op t u v : Sem Value).run C.P w = .ok r w ∧ VRel i z r := by
  unfold binAV at h
  split at h
  · rename_i k a k' b
    have hg := eqGuard_ok w (C := C) (op := op) (t := t) hx hy kx ky p q (by simp)
    simp only [VRel] at hx hy; subst hx hy
    rw [Sem.run_bind, hg]
    simp only [Result.andThen_ok]
    unfold intAV at h
    split at h
    · obtain ⟨r, hr, hv⟩ := shift_ok (P := C.P) w h (.inl rfl) t (yk := k'); exact ⟨r, hr, hv i⟩
    · obtain ⟨r, hr, hv⟩ := shift_ok (P := C.P) w h (.inr rfl) t (yk := k'); exact ⟨r, hr, hv i⟩
    · rename_i h1 h2
      rw [cond_beq] at h
      split at h
      · rename_i hk
        have := kidx_inj hk; subst this
        obtain ⟨r, hr, hv⟩ := intOp_ok (P := C.P) w h h1 h2 t
        exact ⟨r, hr, hv i⟩
      · exact absurd h (by simp)
  · rename_i a b
    have hg := eqGuard_ok w (C := C) (op := op) (t := t) hx hy kx ky p q (by simp)
    simp only [VRel] at hx hy
    obtain ⟨c, rfl, hc⟩ := hx
    obtain ⟨d, rfl, hd⟩ := hy
    obtain ⟨r, hr, hv⟩ := strOp_ok (P := C.P) w hc hd h
    refine ⟨r, ?_, hv i⟩
    rw [Sem.run_bind, hg]
    cases op <;> exact hr
  · rename_i h1 h2
    unfold eqAV at h
    split at h
    all_goals
      first
        | exact absurd h (by simp)
        | (split at h
           · rename_i b hb
             simp only [Option.some.injEq] at h; subst h
             have hsh := eqOp_shape hb
             have hg := fun op => eqGuard_ok w (C := C) (op := op) (t := t) hx hy kx ky p q (by rintro l m rfl rfl _; exact eqOp_guard hb)
             have he := eqOp_ok hC w hb hx hy
             have hbo := binOp_eql C.P w t (v := v) hx kx (fun k a e => by obtain ⟨k', a', rfl⟩ := hsh.1 k a e; exact h1 k a k' a' e rfl) (fun s e => by obtain ⟨s', rfl⟩ := hsh.2 s e; exact h2 s s' e rfl)
             refine ⟨_, ?_, by simp [VRel]; rfl⟩
             rw [Sem.run_bind, hg]
             simp only [Result.andThen_ok]
             first
               | (rw [hbo.1, Sem.run_bind, he]; rfl)
               | (rw [hbo.2, Sem.run_bind, he]; rfl)
           · exact absurd h (by simp))

/-! ### The rest -/

omit hC in
theorem un_ok {P : Program} (w : World) {op : UnOp} {x z : AV} {u : Value} (hx : VRel i x u) (h : unAV op x = some z) : ∃ r, (Op.unary op u).run P w = .ok r w ∧ VRel i z r := by
  unfold unAV at h
  split at h <;> simp only [Option.some.injEq, reduceCtorEq] at h <;> subst h <;> simp only [VRel] at hx <;> subst hx
  · exact ⟨_, rfl, by simp [VRel]⟩
  · exact ⟨_, rfl, by simp only [VRel, wr_eq]⟩
  · rename_i k n
    refine ⟨_, run_intBits_xor w k _ n, ?_⟩
    simp only [VRel, low_ones]

theorem conv_ok (w : World) {src dst : TypeId} {sd dd : TypeDesc} {x z : AV} {u : Value} (hs : C.und src = some sd) (hd : C.und dst = some dd) (hx : VRel i x u)
    (h : convAV (some dd) (some x) = some z) : ∃ r, (convert src dst u).run C.P w = .ok r w ∧ VRel i z r := by
  have us := und_ok hC hs
  have ud := und_ok hC hd
  unfold convAV at h
  split at h
  · rename_i k k' n h1 h2
    simp only [Option.some.injEq] at h h1 h2; subst h h1 h2
    simp only [VRel] at hx; subst hx
    refine ⟨.int k (k.wrap n), ?_, by simp only [VRel, wr_eq]⟩
    simp only [convert, Sem.run_bind, run_underlying us, run_underlying ud, Result.andThen_ok]
    cases sd <;> rfl
  · rename_i s h1 h2
    simp only [Option.some.injEq] at h h1 h2; subst h h1 h2
    simp only [VRel] at hx
    obtain ⟨t, rfl, ht⟩ := hx
    refine ⟨.string t, ?_, by simp only [VRel]; exact ⟨t, rfl, ht⟩⟩
    simp only [convert, Sem.run_bind, run_underlying us, run_underlying ud, Result.andThen_ok]
    cases sd <;> rfl
  · exact absurd h (by simp)

omit hC in
theorem max2_ok {P : Program} (w : World) {x y z : AV} {u v : Value} (hx : VRel i x u) (hy : VRel i y v) (h : max2 x y = some z) :
    ∃ r, (Builtin.max2 u v).run P w = .ok r w ∧ VRel i z r := by
  unfold max2 at h
  split at h
  · simp only [Option.some.injEq] at h; subst h
    simp only [VRel] at hx hy; subst hx hy
    refine ⟨_, rfl, ?_⟩
    simp only [VRel, ilt_eq, cond_dec]
  · exact absurd h (by simp)
omit hC in
theorem min2_ok {P : Program} (w : World) {x y z : AV} {u v : Value} (hx : VRel i x u) (hy : VRel i y v) (h : min2 x y = some z) :
    ∃ r, (Builtin.min2 u v).run P w = .ok r w ∧ VRel i z r := by
  unfold min2 at h
  split at h
  · simp only [Option.some.injEq] at h; subst h
    simp only [VRel] at hx hy; subst hx hy
    refine ⟨_, rfl, ?_⟩
    simp only [VRel, ilt_eq, cond_dec]
  · exact absurd h (by simp)
omit hC in
theorem fold2_ok {P : Program} (w : World) {f : AV → AV → Option AV} {m : Value → Value → Sem Value} (hm : ∀ x y z u v, VRel i x u → VRel i y v → f x y = some z → ∃ r, (m u v).run P w = .ok r w ∧ VRel i z r) :
    ∀ {l : List AV} {us : List Value} {x z : AV} {u : Value}, VRels i l us → VRel i x u → fold2 f x l = some z → ∃ r, (us.foldlM m u).run P w = .ok r w ∧ VRel i z r
  | [], [], x, z, u, _, hx, h => by simp only [fold2, Option.some.injEq] at h; subst h; exact ⟨u, rfl, hx⟩
  | y :: l, v :: us, x, z, u, hl, hx, h => by
    simp only [fold2] at h
    simp only [VRels] at hl
    split at h
    · rename_i z' hz
      obtain ⟨r, hr, hv⟩ := hm _ _ _ _ _ hx hl.1 hz
      obtain ⟨r', hr', hv'⟩ := fold2_ok w hm hl.2 hv h
      refine ⟨r', ?_, hv'⟩
      simp only [List.foldlM_cons, Sem.run_bind, hr, Result.andThen_ok, hr']
    · exact absurd h (by simp)
  | [], _ :: _, _, _, _, hl, _, _ => by simp [VRels] at hl
  | _ :: _, [], _, _, _, hl, _, _ => by simp [VRels] at hl

end
end
end Go.Ev
namespace Go.Ev

section
variable {C : Ctx} (hC : C.Tab) {i : Emb}

theorem natOr_ok {d n : Nat} {v : Option AV} {y : Option Value} (h : natOr d v = some n) (g : (v = none ∧ y = none) ∨ ∃ u z, v = some u ∧ y = some z ∧ VRel i u z) :
    (y = none ∧ n = d) ∨ ∃ k, y = some (.int k (n : Int)) := by
  rcases g with ⟨rfl, rfl⟩ | ⟨u, z, rfl, rfl, gv⟩
  · simp only [natOr, Option.some.injEq] at h; exact .inl ⟨rfl, h.symm⟩
  · simp only [natOr] at h
    unfold natOf at h
    split at h
    · rename_i k m
      simp only [Option.some.injEq] at h; subst h
      simp only [VRel] at gv; subst gv
      exact .inr ⟨k, rfl⟩
    · exact absurd h (by simp)

theorem run_bound {P : Program} (w : World) (k : IntKind) (n y : Nat) (code : BoundsCode) (h : n ≤ y) : (Instr.sliceBound (.int k (n : Int)) y code).run P w = .ok n w := by
  simp [Instr.sliceBound, asIntOf, h]

abbrev OptRel (i : Emb) (v : Option AV) (y : Option Value) : Prop := (v = none ∧ y = none) ∨ ∃ u z, v = some u ∧ y = some z ∧ VRel i u z

theorem run_bounds {P : Program} (w : World) {isSlice : Bool} {len cap l h : Nat} {lo hi : Option AV} {x y : Option Value} (gl : OptRel i lo x) (gh : OptRel i hi y)
    (hl : natOr 0 lo = some l) (hh : natOr len hi = some h) (h1 : h ≤ cap ∨ hi = none) (h2 : l ≤ h) : (Instr.sliceBounds isSlice len cap x y none).run P w = .ok (l, h, cap) w := by
  have a := natOr_ok hl gl
  have b := natOr_ok hh gh
  have hb : ∀ k, y = some (.int k (h : Int)) → h ≤ cap := by
    intro k e
    rcases h1 with h1 | rfl
    · exact h1
    · rcases gh with ⟨_, rfl⟩ | ⟨_, _, e', _⟩
      · cases e
      · cases e'
  rcases a with ⟨rfl, rfl⟩ | ⟨k, rfl⟩ <;> rcases b with ⟨rfl, rfl⟩ | ⟨k', rfl⟩
  · simp [Instr.sliceBounds]
  · have := hb k' rfl
    simp [Instr.sliceBounds, run_bound w k' h cap _ this]
  · simp [Instr.sliceBounds, run_bound w k l _ _ h2]
  · have := hb k' rfl
    simp [Instr.sliceBounds, run_bound w k' h cap _ this, run_bound w k l h _ h2]

theorem run_bounds3 {P : Program} (w : World) {isSlice : Bool} {len cap l h m : Nat} {lo hi : Option AV} {mx : AV} {x y : Option Value} {z : Value} (gl : OptRel i lo x) (gh : OptRel i hi y) (gm : VRel i mx z)
    (hl : natOr 0 lo = some l) (hh : natOr len hi = some h) (hs : hi.isSome = true) (hm : natOf mx = some m) (h0 : m ≤ cap) (h1 : h ≤ m) (h2 : l ≤ h) :
    (Instr.sliceBounds isSlice len cap x y (some z)).run P w = .ok (l, h, m) w := by
  have a := natOr_ok hl gl
  have b := natOr_ok hh gh
  obtain ⟨k2, hz⟩ : ∃ k, z = .int k (m : Int) := by
    have := natOr_ok (i := i) (d := 0) (v := some mx) (y := some z) (n := m) (by simpa [natOr] using hm) (.inr ⟨mx, z, rfl, rfl, gm⟩)
    rcases this with ⟨e, _⟩ | ⟨k, e⟩
    · cases e
    · exact ⟨k, by simpa using e⟩
  subst hz
  rcases b with ⟨rfl, rfl⟩ | ⟨k', rfl⟩
  · rcases gh with ⟨rfl, _⟩ | ⟨_, _, _, e, _⟩
    · simp at hs
    · cases e
  · rcases a with ⟨rfl, rfl⟩ | ⟨k, rfl⟩
    · simp [Instr.sliceBounds, run_bound w k2 m cap _ h0, run_bound w k' h m _ h1]
    · simp [Instr.sliceBounds, run_bound w k2 m cap _ h0, run_bound w k' h m _ h1, run_bound w k l h _ h2]

include hC in
theorem slice_ok (w : World) {t : TypeId} {x z : AV} {u : Value} {lo hi mx : Option AV} {l h m : Option Value} (gx : VRel i x u) (gl : OptRel i lo l) (gh : OptRel i hi h) (gm : OptRel i mx m)
    (hs : sliceAV C t x lo hi mx = some z) : ∃ r, (Instr.sliceAt t u l h m).run C.P w = .ok r w ∧ VRel i z r := by
  unfold sliceAV at hs
  split at hs
  case h_1 s hd =>
    have hu := und_ok hC hd
    split at hs
    · rename_i l' h' hl hh
      rcases gm with ⟨_, rfl⟩ | ⟨_, _, e, _⟩
      case inr => cases e
      rw [ble_nat, ble_nat, ← Bool.decide_and, cond_dec] at hs
      split at hs
      · rename_i hle
        simp only [Option.some.injEq] at hs; subst hs
        simp only [VRel] at gx
        obtain ⟨tt, rfl, ht⟩ := gx
        have hlen : s.length = tt.size := by rw [← ht, List.length_map, Array.length_toList]; rfl
        have hb := run_bounds (P := C.P) w (isSlice := false) (len := s.length) (cap := s.length) gl gh hl hh (.inl hle.1) hle.2
        rw [hlen] at hb
        refine ⟨.string (tt.extract l' h'), ?_, ?_⟩
        · simp only [Instr.sliceAt, Sem.run_bind, run_underlying hu, Result.andThen_ok, Instr.slice, Option.isSome_none, Bool.false_eq_true, if_false, hb, Sem.run_pure]
        · simp only [VRel]
          refine ⟨_, rfl, ?_⟩
          rw [← ht]
          simp [ByteArray.data_extract, List.map_take, List.map_drop, List.take_drop]
      · exact absurd hs (by simp)
    · exact absurd hs (by simp)
  case h_2 el hd =>
    have hu := und_ok hC hd
    split at hs
    · rename_i n hn hl hh
      rcases gm with ⟨_, rfl⟩ | ⟨_, _, e, _⟩
      case inr => cases e
      simp only [Option.some.injEq] at hs; subst hs
      simp only [VRel] at gx; subst gx
      have hb := run_bounds (P := C.P) w (isSlice := true) (len := 0) (cap := 0) gl gh hl hh (.inl (Nat.le_refl _)) (Nat.le_refl _)
      refine ⟨.slice none 0 0, ?_, by simp [VRel]⟩
      simp only [Instr.sliceAt, Sem.run_bind, run_underlying hu, Result.andThen_ok, Instr.slice, hb, run_size hC w hn, Sem.run_pure]
      rfl
    · exact absurd hs (by simp)
  case h_3 el hd =>
    have hu := und_ok hC hd
    split at hs
    · rename_i n hn hl hh
      rcases gm with ⟨_, rfl⟩ | ⟨_, _, e, _⟩
      case inr => cases e
      simp only [Option.some.injEq] at hs; subst hs
      simp only [VRel] at gx
      obtain ⟨ad, m', rfl⟩ := gx
      have hb := run_bounds (P := C.P) w (isSlice := true) (len := 0) (cap := m') gl gh hl hh (.inl (Nat.zero_le _)) (Nat.le_refl _)
      refine ⟨.slice (if m' = 0 then some ad else (some ad).map (·.add (0 * n))) (0 - 0) (m' - 0), ?_, ?_⟩
      · simp only [Instr.sliceAt, Sem.run_bind, run_underlying hu, Result.andThen_ok, Instr.slice, hb, run_size hC w hn, Sem.run_pure]
      · simp only [VRel]
        by_cases h0 : m' = 0
        · exact ⟨ad, _, by rw [if_pos h0]⟩
        · exact ⟨ad.add (0 * n), _, by rw [if_neg h0]; rfl⟩
    · exact absurd hs (by simp)
  case h_4 el b o len cap hd =>
    have hu := und_ok hC hd
    simp only [VRel] at gx
    obtain ⟨c, m', hc, rfl, hcap⟩ := gx
    split at hs
    · rename_i n l' h' hn hl hh
      split at hs
      · -- no bound on the capacity
        rcases gm with ⟨_, rfl⟩ | ⟨_, _, e, _⟩
        case inr => cases e
        have run (h1 : h' ≤ m' ∨ hi = none) (h2 : l' ≤ h') : (Instr.sliceAt t (.slice (some ⟨c.1, o, none⟩) len m') l h none).run C.P w =
            .ok (.slice (if m' = l' then some ⟨c.1, o, none⟩ else some ⟨c.1, o + l' * n, none⟩) (h' - l') (m' - l')) w := by
          have hb := run_bounds (P := C.P) w (isSlice := true) (len := len) (cap := m') gl gh hl hh h1 h2
          simp only [Instr.sliceAt, Sem.run_bind, run_underlying hu, Result.andThen_ok, Instr.slice, hb, run_size hC w hn, Sem.run_pure, Option.map_some, Addr.add_mid]
        split at hs
        · rename_i cc
          simp only [capOk] at hcap
          obtain ⟨rfl, hle⟩ := hcap
          rw [ble_nat, ble_nat, ← Bool.decide_and, cond_dec] at hs
          split at hs
          · rename_i hb
            rw [cond_beq] at hs
            refine ⟨_, run (.inl hb.1) hb.2, ?_⟩
            split at hs
            · rename_i e
              simp only [Option.some.injEq] at hs; subst hs
              rw [if_pos e.symm]
              simp only [VRel]
              exact ⟨c, _, hc, rfl, rfl, by omega⟩
            · rename_i e
              simp only [Option.some.injEq] at hs; subst hs
              rw [if_neg (fun h => e h.symm)]
              simp only [VRel]
              exact ⟨c, _, hc, rfl, rfl, by omega⟩
          · exact absurd hs (by simp)
        · rename_i sz
          simp only [capOk] at hcap
          obtain ⟨hle, htot⟩ := hcap
          rw [ble_nat, ble_nat, ← Bool.decide_and, cond_dec] at hs
          split at hs
          · rename_i hb
            refine ⟨_, run (.inl (by omega)) hb.2, ?_⟩
            rw [cond_beq] at hs
            split at hs
            · rename_i e
              simp only [Option.some.injEq] at hs; subst hs e
              simp only [VRel]
              refine ⟨c, m', hc, ?_, by simp only [capOk]; omega⟩
              simp
            · rename_i e
              rw [cond_beq] at hs
              split at hs
              · rename_i e2
                simp only [Option.some.injEq] at hs; subst hs
                simp only [VRel]
                by_cases h0 : m' = l'
                · exact ⟨_, _, by rw [if_pos h0, show h' - l' = 0 by omega]⟩
                · exact ⟨_, _, by rw [if_neg h0, show h' - l' = 0 by omega]⟩
              · rename_i e2
                rw [cond_beq] at hs
                split at hs
                · rename_i e3
                  simp only [Option.some.injEq] at hs; subst hs e3
                  rw [if_neg (by omega)]
                  simp only [VRel]
                  refine ⟨c, _, hc, rfl, ?_⟩
                  simp only [capOk]
                  refine ⟨by omega, ?_⟩
                  have : o + l' * sz + (m' - l') * sz = o + m' * sz := by
                    rw [Nat.add_assoc, ← Nat.add_mul]
                    congr 2
                    omega
                  omega
                · exact absurd hs (by simp)
          · exact absurd hs (by simp)
      · rename_i mm
        rcases gm with ⟨e, _⟩ | ⟨u2, z2, e, rfl, gv2⟩
        · cases e
        · simp only [Option.some.injEq] at e; subst e
          split at hs
          · rename_i m2 hm2
            have key : ∀ hk : m2 ≤ m', h' ≤ m2 → l' ≤ h' → hi.isSome = true →
                (Instr.sliceAt t (.slice (some ⟨c.1, o, none⟩) len m') l h (some z2)).run C.P w =
                .ok (.slice (if m2 = l' then some ⟨c.1, o, none⟩ else some ⟨c.1, o + l' * n, none⟩) (h' - l') (m2 - l')) w := by
              intro hk h1 h2 h3
              have hb := run_bounds3 (P := C.P) w (isSlice := true) (len := len) (cap := m') gl gh gv2 hl hh h3 hm2 hk h1 h2
              simp only [Instr.sliceAt, Sem.run_bind, run_underlying hu, Result.andThen_ok, Instr.slice, hb, run_size hC w hn, Sem.run_pure, Option.map_some, Addr.add_mid]
            have fin : ∀ hk : m2 ≤ m', h' ≤ m2 → l' ≤ h' → hi.isSome = true →
                some (bif l'.beq m2 then AV.sl b o (h' - l') (.ex (m2 - l')) else .sl b (o + l' * n) (h' - l') (.ex (m2 - l'))) = some z →
                ∃ r, (Instr.sliceAt t (.slice (some ⟨c.1, o, none⟩) len m') l h (some z2)).run C.P w = .ok r w ∧ VRel i z r := by
              intro hk h1 h2 h3 hz
              refine ⟨_, key hk h1 h2 h3, ?_⟩
              rw [cond_beq] at hz
              split at hz
              · rename_i e
                simp only [Option.some.injEq] at hz; subst hz
                rw [if_pos e.symm]
                simp only [VRel]
                exact ⟨c, _, hc, rfl, rfl, by omega⟩
              · rename_i e
                simp only [Option.some.injEq] at hz; subst hz
                rw [if_neg (fun h => e h.symm)]
                simp only [VRel]
                exact ⟨c, _, hc, rfl, rfl, by omega⟩
            cases cap with
            | ex cc =>
              simp only [capOk] at hcap
              obtain ⟨rfl, hle⟩ := hcap
              simp only [ble_nat] at hs
              by_cases hcond : ((m2 ≤ m' ∧ h' ≤ m2) ∧ l' ≤ h') ∧ hi.isSome = true
              · obtain ⟨⟨⟨h1, h2⟩, h3⟩, h4⟩ := hcond
                simp only [h1, h2, h3, h4, decide_true, Bool.and_true, cond_true] at hs
                exact fin h1 h2 h3 h4 hs
              · have : (decide (m2 ≤ m') && decide (h' ≤ m2) && decide (l' ≤ h') && hi.isSome) = false := by
                  rw [Bool.eq_false_iff]; intro hh; apply hcond; simpa using hh
                rw [this] at hs
                exact absurd hs (by simp)
            | rest sz =>
              simp only [capOk] at hcap
              simp only [ble_nat] at hs
              by_cases hcond : ((m2 ≤ len ∧ h' ≤ m2) ∧ l' ≤ h') ∧ hi.isSome = true
              · obtain ⟨⟨⟨h1, h2⟩, h3⟩, h4⟩ := hcond
                simp only [h1, h2, h3, h4, decide_true, Bool.and_true, cond_true] at hs
                exact fin (by omega) h2 h3 h4 hs
              · have : (decide (m2 ≤ len) && decide (h' ≤ m2) && decide (l' ≤ h') && hi.isSome) = false := by
                  rw [Bool.eq_false_iff]; intro hh; apply hcond; simpa using hh
                rw [this] at hs
                exact absurd hs (by simp)
          · exact absurd hs (by simp)
    · exact absurd hs (by simp)
  case h_5 len el b o hd =>
    have hu := und_ok hC hd
    simp only [VRel] at gx
    obtain ⟨c, hc, rfl⟩ := gx
    split at hs
    · rename_i n l' h' hn hl hh
      rcases gm with ⟨_, rfl⟩ | ⟨_, _, e, _⟩
      case inr => cases e
      rw [ble_nat, ble_nat, ← Bool.decide_and, cond_dec] at hs
      split at hs
      · rename_i hb
        have hbd := run_bounds (P := C.P) w (isSlice := false) (len := len) (cap := len) gl gh hl hh (.inl hb.1) hb.2
        refine ⟨.slice (some (if len = l' then ⟨c.1, o, none⟩ else ⟨c.1, o + l' * n, none⟩)) (h' - l') (len - l'), ?_, ?_⟩
        · simp only [Instr.sliceAt, Sem.run_bind, run_underlying hu, Result.andThen_ok, Instr.sureAddr, Sem.run_pure, hbd, run_size hC w hn, Addr.add_mid]
        · rw [cond_beq] at hs
          split at hs
          · rename_i e
            simp only [Option.some.injEq] at hs; subst hs
            rw [if_pos e.symm]
            simp only [VRel]
            exact ⟨c, _, hc, rfl, rfl, by omega⟩
          · rename_i e
            simp only [Option.some.injEq] at hs; subst hs
            rw [if_neg (fun h => e h.symm)]
            simp only [VRel]
            exact ⟨c, _, hc, rfl, rfl, by omega⟩
      · exact absurd hs (by simp)
    · exact absurd hs (by simp)
  case h_6 => exact absurd hs (by simp)

end
end Go.Ev
namespace Go.Ev
noncomputable section

def OpR.tag : OpR → Nat
  | .val _ => 0 | .rd _ => 1 | .new _ _ => 2 | .wr _ _ => 3 | .fn _ _ => 4 | .yield _ _ => 5 | .bad => 6
/-- An answer of one kind, or none. -/
def OpR.is (r : OpR) (n : Nat) : Prop := r.tag = n ∨ r.tag = 6

theorem is_bad (n : Nat) : OpR.bad.is n := .inr rfl
theorem is_asVal (x : Option AV) : (asVal x).is 0 := by cases x <;> simp [asVal, OpR.is, OpR.tag]
theorem is_asRd (x : Option AV) : (asRd x).is 1 := by cases x <;> simp [asRd, OpR.is, OpR.tag]
theorem is_asWr (x : Option (AV × Heap)) : (asWr x).is 3 := by
  cases x with
  | none => exact .inr rfl
  | some p => exact .inl rfl
theorem is_wrote (v : AV) (x : Option Heap) : (wroteAV v x).is 3 := by cases x <;> simp [wroteAV, OpR.is, OpR.tag]
theorem is_ite {c : Bool} {x y : OpR} {n : Nat} (h : x.is n) (g : y.is n) : (bif c then x else y).is n := by cases c <;> assumption
theorem is_wr (v : AV) (h : Heap) : (OpR.wr v h).is 3 := .inl rfl
theorem is_new (o : AObj) (f : Nat → AV) : (OpR.new o f).is 2 := .inl rfl
theorem is_rowR (l : Nat) (c : Cap) (x : Option (List AV)) : (rowR l c x).is 2 := by cases x <;> first | exact .inl rfl | exact .inr rfl
theorem is_allocR (x : Option (List AV)) : (allocR x).is 2 := by cases x <;> first | exact .inl rfl | exact .inr rfl
theorem is_boxR (x : Option AV) : (boxR x).is 2 := by cases x <;> first | exact .inl rfl | exact .inr rfl
theorem is_buildSliceR (C : Ctx) (e : Env) (n : Nat) (ps : List (Nat × Operand)) (d : Option TypeDesc) : (buildSliceR C e n ps d).is 2 := by
  unfold buildSliceR
  repeat' split
  all_goals first | exact is_bad _ | exact is_ite (is_rowR _ _ _) (is_bad _)
theorem is_makeSliceR (C : Ctx) (l c : Option AV) (d : Option TypeDesc) : (makeSliceR C l c d).is 2 := by
  unfold makeSliceR
  repeat' split
  all_goals first | exact is_bad _ | exact is_ite (is_rowR _ _ _) (is_bad _)
theorem is_makeMapR (d : Option TypeDesc) (r : Option (Option AV)) : (makeMapR d r).is 2 := by
  unfold makeMapR
  repeat' split
  all_goals first | exact is_bad _ | exact is_new _ _
theorem is_bytesR (C : Ctx) (el : TypeId) (x : Option AV) : (bytesR C el x).is 2 := by
  unfold bytesR
  repeat' split
  all_goals first | exact is_bad _ | exact is_rowR _ _ _
theorem is_storeR (h : Heap) (n : Option Nat) (a b : Option AV) : (storeR h n a b).is 3 := by
  unfold storeR
  repeat' split
  all_goals first | exact is_bad _ | exact is_ite (is_wrote _ _) (is_bad _)
theorem is_updateR (C : Ctx) (h : Heap) (m k v : Option AV) (d : Option TypeDesc) : (updateR C h m k v d).is 3 := by
  unfold updateR
  repeat' split
  all_goals first | exact is_bad _ | exact is_ite (is_wrote _ _) (is_bad _)
theorem is_entryR (C : Ctx) (h : Heap) (m k : Option AV) (d : Option TypeDesc) : (entryR C h m k d).is 3 := by
  unfold entryR
  split
  · split
    · refine is_ite ?_ (is_bad _)
      repeat' split
      all_goals first | exact is_bad _ | exact is_wr _ _
    · exact is_bad _
  · exact is_bad _
theorem is_entryStoreR (h : Heap) (m k v : Option AV) : (entryStoreR h m k v).is 3 := by
  unfold entryStoreR
  repeat' split
  all_goals first | exact is_bad _ | exact is_wr _ _
theorem is_rangeR (h : Heap) (d : Option TypeDesc) (x : Option AV) : (rangeR h d x).is 3 := by
  unfold rangeR
  repeat' split
  all_goals first | exact is_bad _ | exact is_wr _ _
theorem is_sameSliceR (C : Ctx) (h : Heap) (a b c : TypeId) (x : Option AV) : (sameSliceR C h a b c x).is 3 := by
  unfold sameSliceR
  repeat' split
  all_goals first | exact is_bad _ | exact is_ite (is_wr _ _) (is_bad _)
theorem is_appendR (C : Ctx) (h : Heap) (el : TypeId) (u : Option TypeDesc) (x : Option (List AV)) : (appendR C h el u x).is 3 := by
  unfold appendR
  repeat' split
  all_goals first | exact is_bad _ | exact is_ite (is_asWr _) (is_bad _)
theorem is_copyR (C : Ctx) (h : Heap) (el : TypeId) (x : Option (List AV)) : (copyR C h el x).is 3 := by
  unfold copyR
  repeat' split
  all_goals first | exact is_bad _ | exact is_asWr _
theorem is_clearR (C : Ctx) (h : Heap) (d : Option TypeDesc) (x : Option (List AV)) : (clearR C h d x).is 3 := by
  unfold clearR
  split
  case h_5 =>
    refine is_ite (is_wr _ _) ?_
    split
    · exact is_wrote _ _
    · exact is_bad _
  all_goals
    repeat' split
    all_goals first | exact is_bad _ | exact is_wr _ _
theorem is_deleteR (C : Ctx) (h : Heap) (d : Option TypeDesc) (x : Option (List AV)) : (deleteR C h d x).is 3 := by
  unfold deleteR
  split
  · refine is_ite ?_ (is_bad _)
    repeat' split
    all_goals first | exact is_bad _ | exact is_wr _ _ | exact is_wrote _ _
  · exact is_bad _

/-- The number of a kind of operation. -/
def Kind.tag : Kind → Nat
  | .pure => 0 | .read => 1 | .alloc => 2 | .heavy => 3 | .call => 4

/-- An operation answers as its kind says: a call with a function or a round, all else with what its kind has. -/
theorem is_kind (C : Ctx) (e : Env) (s g : Heap) (op : Op) :
    (kindOf C op = .call ∧ ((opEval C e s g op).tag = 4 ∨ (opEval C e s g op).tag = 5 ∨ (opEval C e s g op).tag = 6)) ∨
    (kindOf C op ≠ .call ∧ (opEval C e s g op).is (kindOf C op).tag) := by
  cases op
  case call c =>
    obtain ⟨callee, args, argTypes⟩ := c
    cases callee with
    | value f =>
      refine .inl ⟨rfl, ?_⟩
      simp only [opEval, callR]
      unfold calledR
      repeat' split
      all_goals simp [OpR.tag]
    | invoke r m => exact .inl ⟨rfl, .inr (.inr rfl)⟩
    | builtin b =>
      refine .inr ?_
      cases b
      case len => exact ⟨by simp [kindOf], is_asRd _⟩
      case max => exact ⟨by simp [kindOf], is_asVal _⟩
      case min => exact ⟨by simp [kindOf], is_asVal _⟩
      case append =>
        refine ⟨by simp [kindOf], ?_⟩
        simp only [opEval, callR, builtinR]
        split
        · exact is_appendR _ _ _ _ _
        · exact is_bad _
      case copy =>
        refine ⟨by simp [kindOf], ?_⟩
        simp only [opEval, callR, builtinR]
        split
        · exact is_copyR _ _ _ _
        · exact is_bad _
      case clear => exact ⟨by simp [kindOf], is_clearR _ _ _ _⟩
      case delete => exact ⟨by simp [kindOf], is_deleteR _ _ _ _⟩
      all_goals exact ⟨by simp [kindOf], is_bad _⟩
  case convert src dst x =>
    refine .inr ?_
    simp only [opEval, kindOf, convertR]
    cases hs : C.und src with
    | none => exact ⟨by simp, is_bad _⟩
    | some sd =>
      cases hd : C.und dst with
      | none =>
        refine ⟨by cases sd <;> simp, ?_⟩
        cases sd <;> exact is_asVal _
      | some dd =>
        cases sd <;> cases dd <;> first
          | exact ⟨by simp, is_asVal _⟩
          | exact ⟨by simp, is_asRd _⟩
          | exact ⟨by simp, is_sameSliceR _ _ _ _ _ _⟩
          | exact ⟨by simp, is_bytesR _ _ _⟩
  case makeFunc f l m =>
    refine .inr ⟨by simp [kindOf], ?_⟩
    simp only [opEval]
    unfold makeFuncR
    split
    · exact is_asVal _
    · exact is_bad _
  all_goals
    refine .inr ⟨by simp [kindOf], ?_⟩
    first
      | exact is_asVal _
      | exact is_asRd _
      | exact is_bad _
      | exact is_allocR _
      | exact is_boxR _
      | exact is_buildSliceR _ _ _ _ _
      | exact is_makeSliceR _ _ _ _
      | exact is_makeMapR _ _
      | exact is_storeR _ _ _ _
      | exact is_updateR _ _ _ _ _ _
      | exact is_entryR _ _ _ _ _
      | exact is_entryStoreR _ _ _ _
      | exact is_rangeR _ _ _

theorem kind_val {C : Ctx} {e : Env} {s g : Heap} {op : Op} {v : AV} (h : opEval C e s g op = .val v) : kindOf C op = .pure := by
  have := is_kind C e s g op
  rw [h] at this
  rcases this with ⟨_, h1⟩ | ⟨h0, h1⟩
  · simp [OpR.tag] at h1
  · revert h1 h0; cases kindOf C op <;> simp [OpR.is, OpR.tag, Kind.tag]
theorem kind_rd {C : Ctx} {e : Env} {s g : Heap} {op : Op} {v : AV} (h : opEval C e s g op = .rd v) : kindOf C op = .read := by
  have := is_kind C e s g op
  rw [h] at this
  rcases this with ⟨_, h1⟩ | ⟨h0, h1⟩
  · simp [OpR.tag] at h1
  · revert h1 h0; cases kindOf C op <;> simp [OpR.is, OpR.tag, Kind.tag]
theorem kind_new {C : Ctx} {e : Env} {s g : Heap} {op : Op} {o : AObj} {f : Nat → AV} (h : opEval C e s g op = .new o f) : kindOf C op = .alloc := by
  have := is_kind C e s g op
  rw [h] at this
  rcases this with ⟨_, h1⟩ | ⟨h0, h1⟩
  · simp [OpR.tag] at h1
  · revert h1 h0; cases kindOf C op <;> simp [OpR.is, OpR.tag, Kind.tag]
theorem kind_wr {C : Ctx} {e : Env} {s g : Heap} {op : Op} {v : AV} {h' : Heap} (h : opEval C e s g op = .wr v h') : kindOf C op = .heavy := by
  have := is_kind C e s g op
  rw [h] at this
  rcases this with ⟨_, h1⟩ | ⟨h0, h1⟩
  · simp [OpR.tag] at h1
  · revert h1 h0; cases kindOf C op <;> simp [OpR.is, OpR.tag, Kind.tag]
theorem kind_fn {C : Ctx} {e : Env} {s g : Heap} {op : Op} {f : FuncId} {l : List AV} (h : opEval C e s g op = .fn f l) : kindOf C op = .call := by
  have := is_kind C e s g op
  rw [h] at this
  rcases this with ⟨h0, _⟩ | ⟨h0, h1⟩
  · exact h0
  · revert h1 h0; cases kindOf C op <;> simp [OpR.is, OpR.tag, Kind.tag]
theorem kind_yield {C : Ctx} {e : Env} {s g : Heap} {op : Op} {f : Nat} {l : List AV} (h : opEval C e s g op = .yield f l) : kindOf C op = .call := by
  have := is_kind C e s g op
  rw [h] at this
  rcases this with ⟨h0, _⟩ | ⟨h0, h1⟩
  · exact h0
  · revert h1 h0; cases kindOf C op <;> simp [OpR.is, OpR.tag, Kind.tag]

end
end Go.Ev
namespace Go.Ev

theorem amap {α β : Type} (f : α → β) (l : Array α) : l.map f = (l.toList.map f).toArray := by rw [← Array.toList_map, Array.toArray_toList]
theorem asVal_some {x : Option AV} {v : AV} (h : asVal x = .val v) : x = some v := by
  cases x <;> simp [asVal] at h; rw [h]
theorem asRd_val {x : Option AV} {v : AV} (h : asRd x = .val v) : False := by cases x <;> simp [asRd] at h
theorem asWr_val {x : Option (AV × Heap)} {v : AV} (h : asWr x = .val v) : False := by
  cases x with
  | none => simp [asWr] at h
  | some p => cases p; simp [asWr] at h

theorem wroteAV_val {u : AV} {x : Option Heap} {v : AV} (h : wroteAV u x = .val v) : False := by cases x <;> simp [wroteAV] at h
section
variable {C : Ctx} (hC : C.Tab) (w : World) {i : Emb} {e : Env} {a : Act} (g : ERel i e a.tmps)
include hC g

theorem val_ok {o : Oper} {s gg : Heap} {v : AV} (h : opEval C e s gg o.op = .val v) :
    ∃ x, (execOp a.eval o).run C.P w = .ok (.value x) w ∧ VRel i v x := by
  obtain ⟨dst, op, type, pos, after, guard⟩ := o
  simp only at h
  have hk := kind_val h
  -- a value that 'v' wraps
  have wrap : ∀ (m : Sem Value), (∃ x, m.run C.P w = .ok x w ∧ VRel i v x) → ∃ x, ((do pure (.value (← m))) : Sem Next).run C.P w = .ok (.value x) w ∧ VRel i v x := by
    rintro m ⟨x, hx, hv⟩
    exact ⟨x, by simp only [Sem.run_bind, hx, Result.andThen_ok, Sem.run_pure], hv⟩
  cases op <;> simp only [opEval] at h <;> simp only [execOp]
  case move x => exact ⟨_, rfl, opdU_ok g (asVal_some h)⟩
  case assign x => exact ⟨_, rfl, opdU_ok g (asVal_some h)⟩
  case pick c x y =>
    have h := asVal_some h
    unfold pickAV at h
    split at h
    · rename_i hc
      have := opd_ok g hc
      simp only [VRel] at this
      exact ⟨_, by simp only [this, asBool, Sem.run_bind, Sem.run_pure, Result.andThen_ok, if_true], opd_ok g h⟩
    · rename_i hc
      have := opd_ok g hc
      simp only [VRel] at this
      exact ⟨_, by simp only [this, asBool, Sem.run_bind, Sem.run_pure, Result.andThen_ok, Bool.false_eq_true, if_false], opd_ok g h⟩
    · exact absurd h (by simp)
  case nilCheck x =>
    have h := asVal_some h
    unfold nilAV at h
    split at h
    · rename_i b o hx
      have gx := opd_ok g hx
      simp only [Option.some.injEq] at h; subst h
      simp only [VRel] at gx ⊢
      obtain ⟨c, hc, hv⟩ := gx
      exact ⟨_, by rw [hv]; rfl, c, hc, rfl⟩
    · rename_i f l m hx
      have gx := opd_ok g hx
      simp only [Option.some.injEq] at h; subst h
      simp only [VRel] at gx ⊢
      obtain ⟨l', m', hl, hm, hv⟩ := gx
      exact ⟨_, by rw [hv]; rfl, l', m', hl, hm, rfl⟩
    · rename_i l hx
      have gx := opd_ok g hx
      simp only [Option.some.injEq] at h; subst h
      simp only [VRel] at gx ⊢
      obtain ⟨c, hc, hv⟩ := gx
      exact ⟨_, by rw [hv]; rfl, c, hc, rfl⟩
    · exact absurd h (by simp)
  case build t ps => exact wrap _ (build_ok hC w g (asVal_some h))
  case fieldAddr t x f =>
    have h := asVal_some h
    cases hx : opd e x with
    | none => rw [hx] at h; unfold fieldAddrAV at h; split at h <;> simp at h
    | some u => rw [hx] at h; exact wrap _ (fieldAddr_ok hC w (opd_ok g hx) h)
  case field t x f =>
    have h := asVal_some h
    cases hx : opd e x with
    | none => rw [hx] at h; unfold fieldAV at h; split at h <;> simp at h
    | some u => rw [hx] at h; exact wrap _ (field_ok hC w (opd_ok g hx) h)
  case indexAddr t x j =>
    have h := asVal_some h
    cases hx : opd e x with
    | none => rw [hx] at h; unfold indexAddrAV at h; split at h <;> simp at h
    | some u =>
      cases hj : opd e j with
      | none => rw [hj] at h; unfold indexAddrAV at h; split at h <;> simp at h
      | some u' => rw [hx, hj] at h; exact wrap _ (indexAddr_ok hC w (opd_ok g hx) (opd_ok g hj) h)
  case index t x j =>
    have h := asVal_some h
    cases hx : opd e x with
    | none => rw [hx] at h; unfold indexAV at h; split at h <;> simp at h
    | some u =>
      cases hj : opd e j with
      | none => rw [hj] at h; unfold indexAV at h; split at h <;> simp at h
      | some u' => rw [hx, hj] at h; exact wrap _ (index_ok hC w (opd_ok g hx) (opd_ok g hj) h)
  case binOp op t x y yt =>
    have h := asVal_some h
    unfold binOf at h
    split at h
    · rename_i p q hp hq
      exact wrap _ (bin_ok hC w (opd_ok g hp) (opd_ok g hq) (opd_known hp) (opd_known hq) x y h)
    · exact absurd h (by simp)
  case unOp op t x =>
    have h := asVal_some h
    unfold unOf at h
    split at h
    · rename_i p hp
      exact wrap _ (un_ok w (opd_ok g hp) h)
    · exact absurd h (by simp)
  case convert src dst x =>
    unfold convertR at h
    split at h
    · exact (asRd_val h).elim
    · unfold sameSliceR at h; split at h <;> (try split at h) <;> (try (rw [cond_beq] at h; split at h)) <;> simp at h
    · unfold bytesR at h; split at h <;> (try split at h) <;> (try simp [rowR] at h)
    · rename_i sd hs _ _ _
      have h := asVal_some h
      cases hd : C.und dst with
      | none => rw [hd] at h; unfold convAV at h; simp at h
      | some dd =>
        cases hx : opd e x with
        | none => rw [hx, hd] at h; unfold convAV at h; split at h <;> simp_all
        | some u =>
          rw [hx, hd] at h
          exact wrap _ (conv_ok hC w hs hd (opd_ok g hx) h)
    · simp at h
  case makeFunc f l m =>
    unfold makeFuncR at h
    split at h
    · have h := asVal_some h
      unfold fnAV at h
      split at h
      · rename_i f l' m' hl hm
        simp only [Option.some.injEq] at h; subst h
        refine wrap _ ⟨_, rfl, ?_⟩
        simp only [VRel]
        exact ⟨_, _, opds_ok g hl, opds_ok g hm, by rw [amap a.eval l, amap a.eval m]⟩
      · exact absurd h (by simp)
    · simp at h
  case slice t x lo hi mx =>
    have h := asVal_some h
    unfold sliceOf at h
    split at h
    · rename_i u l h' m hx hl hh hm
      exact wrap _ (slice_ok hC w (opd_ok g hx) (optOpd_ok g hl) (optOpd_ok g hh) (optOpd_ok g hm) h)
    · exact absurd h (by simp)
  case extract x k =>
    have h := asVal_some h
    unfold extractAV at h
    split at h
    · rename_i l hx
      have gx := opd_ok g hx
      simp only [VRel] at gx
      obtain ⟨l', hl, hv⟩ := gx
      obtain ⟨y, hy, gy⟩ := VRels.get k hl h
      refine wrap _ ⟨y, ?_, gy⟩
      rw [hv]
      simp [Instr.extract, hy]
    · exact absurd h (by simp)
  case call c =>
    obtain ⟨callee, args, argTypes⟩ := c
    unfold callR at h
    cases callee with
    | value f =>
      simp only at h
      unfold calledR at h
      split at h <;> (try split at h) <;> simp at h
    | invoke r m => simp at h
    | builtin b =>
      cases b
      case max =>
        have h : foldOf _ _ = some v := asVal_some h
        unfold foldOf at h
        split at h
        · rename_i x l hl
          have gl := opds_ok g hl
          cases hargs : args.toList.map a.eval with
          | nil => rw [hargs] at gl; simp [VRels] at gl
          | cons u us =>
            rw [hargs] at gl
            simp only [VRels] at gl
            obtain ⟨r, hr, hv⟩ := fold2_ok (P := C.P) w (m := Builtin.max2) (fun _ _ _ _ _ h1 h2 h3 => max2_ok w h1 h2 h3) gl.2 gl.1 h
            refine ⟨r, ?_, hv⟩
            have hml : (args.map a.eval).toList = u :: us := by simpa using hargs
            simp only [resolve, Sem.run_bind, Sem.run_pure, Result.andThen_ok, invoke, builtin, Builtin.max_, hml, hr]
        · exact absurd h (by simp)
      case min =>
        have h : foldOf _ _ = some v := asVal_some h
        unfold foldOf at h
        split at h
        · rename_i x l hl
          have gl := opds_ok g hl
          cases hargs : args.toList.map a.eval with
          | nil => rw [hargs] at gl; simp [VRels] at gl
          | cons u us =>
            rw [hargs] at gl
            simp only [VRels] at gl
            obtain ⟨r, hr, hv⟩ := fold2_ok (P := C.P) w (m := Builtin.min2) (fun _ _ _ _ _ h1 h2 h3 => min2_ok w h1 h2 h3) gl.2 gl.1 h
            refine ⟨r, ?_, hv⟩
            have hml : (args.map a.eval).toList = u :: us := by simpa using hargs
            simp only [resolve, Sem.run_bind, Sem.run_pure, Result.andThen_ok, invoke, builtin, Builtin.min_, hml, hr]
        · exact absurd h (by simp)
      all_goals exact absurd hk (by simp [kindOf])
  all_goals
    first
      | (cases h; done)
      | (exfalso; simp [kindOf] at hk; done)

end
end Go.Ev
