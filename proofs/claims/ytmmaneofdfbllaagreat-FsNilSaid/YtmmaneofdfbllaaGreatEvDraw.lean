/-
  EvDraw: regions that draw their order. No condition.
-/
import Derived.Test.YtmmaneofdfbllaaGreatEvCodeB
set_option linter.unusedVariables false
set_option linter.unusedSimpArgs false
set_option linter.unusedSectionVars false
namespace Go.Ev

theorem opds_congr {e e₂ : Env} : ∀ {l : List Operand}, (∀ x ∈ l, opd e₂ x = opd e x) → opds e₂ l = opds e l
  | [], _ => rfl
  | x :: l, h => by
    simp only [opds]
    rw [h x (by simp), opds_congr fun y hy => h y (by simp [hy])]
theorem opdsU_congr {e e₂ : Env} : ∀ {l : List Operand}, (∀ x ∈ l, opd e₂ x = opd e x) → opdsU e₂ l = opdsU e l
  | [], _ => rfl
  | x :: l, h => by
    simp only [opdsU]
    rw [opdU_congr (h x (by simp)), opdsU_congr fun y hy => h y (by simp [hy])]
theorem fillFields_congr {C : Ctx} {e e₂ : Env} {fs : List Field} : ∀ {l : List (Nat × Operand)} {cs : List AV}, (∀ x ∈ l, opd e₂ x.2 = opd e x.2) → fillFields C e₂ fs l cs = fillFields C e fs l cs
  | [], _, _ => rfl
  | (i, x) :: l, cs, h => by
    have hx : opd e₂ x = opd e x := h (i, x) (by simp)
    have ih : ∀ cs, fillFields C e₂ fs l cs = fillFields C e fs l cs := fun cs => fillFields_congr fun y hy => h y (by simp [hy])
    simp only [fillFields, hx, ih]
theorem fillElems_congr {e e₂ : Env} {n : Nat} : ∀ {l : List (Nat × Operand)} {cs : List AV}, (∀ x ∈ l, opd e₂ x.2 = opd e x.2) → fillElems e₂ n l cs = fillElems e n l cs
  | [], _, _ => rfl
  | (i, x) :: l, cs, h => by
    have hx : opd e₂ x = opd e x := h (i, x) (by simp)
    have ih : ∀ cs, fillElems e₂ n l cs = fillElems e n l cs := fun cs => fillElems_congr fun y hy => h y (by simp [hy])
    simp only [fillElems, hx, ih]
theorem optOpd_congr {e e₂ : Env} {x : Option Operand} (h : ∀ y ∈ x.toList, opd e₂ y = opd e y) : optOpd e₂ x = optOpd e x := by
  cases x with
  | none => rfl
  | some x => simp only [optOpd]; rw [h x (by simp)]

/-- What an operation yields hangs on its operands alone. -/
theorem opEval_congr {C : Ctx} {e e₂ : Env} {s g : Heap} {op : Op} (h : ∀ x ∈ op.operands.toList, opd e₂ x = opd e x) : opEval C e₂ s g op = opEval C e s g op := by
  cases op <;> simp only [opEval, Op.operands] at h ⊢
  case pick c a b =>
    have h1 := h c (by simp); have h2 := h a (by simp); have h3 := h b (by simp)
    rw [h1]; unfold pickAV; rw [h2, h3]
  case build t ps =>
    have h' : ∀ x ∈ ps.toList, opd e₂ x.2 = opd e x.2 := fun x hx => h x.2 (by simp only [List.mem_map]; exact ⟨x, hx, rfl⟩)
    unfold buildAV
    simp only [fillFields_congr h', fillElems_congr h']
  case buildSlice t n ps =>
    have h' : ∀ x ∈ ps.toList, opd e₂ x.2 = opd e x.2 := fun x hx => h x.2 (by simp only [List.mem_map]; exact ⟨x, hx, rfl⟩)
    unfold buildSliceR
    simp only [fillElems_congr h']
  case makeFunc f l m =>
    rw [opds_congr (l := l.toList) fun x hx => h x (by simp at hx ⊢; exact .inl hx), opds_congr (l := m.toList) fun x hx => h x (by simp at hx ⊢; exact .inr hx)]
  case makeMap t r => rw [optOpd_congr fun x hx => h x (by simpa using hx)]
  case slice t x lo hi mx =>
    rw [h x (by simp), optOpd_congr (x := lo) fun y hy => h y (by simp at hy ⊢; simp [hy]), optOpd_congr (x := hi) fun y hy => h y (by simp at hy ⊢; simp [hy]), optOpd_congr (x := mx) fun y hy => h y (by simp at hy ⊢; simp [hy])]
  case call c =>
    simp only [Call.operands] at h
    have ha : opds e₂ c.args.toList = opds e c.args.toList := opds_congr fun x hx => h x (by simp at hx ⊢; exact .inr hx)
    have hu : opdsU e₂ c.args.toList = opdsU e c.args.toList := opdsU_congr fun x hx => h x (by simp at hx ⊢; exact .inr hx)
    unfold callR
    rw [ha, hu]
    cases hc : c.callee with
    | value f => simp only; rw [h f (by rw [hc]; simp)]
    | builtin b => rfl
    | invoke r m => rfl
  case move x => rw [opdU_congr (h x (by simp))]
  case assign x => rw [opdU_congr (h x (by simp))]
  all_goals
    first
      | rfl
      | (rw [h _ (by simp)]; done)
      | (simp only [List.mem_cons, List.not_mem_nil, or_false, forall_eq_or_imp, forall_eq] at h; simp only [h]; done)

section
variable {C : Ctx} {S : String → Code → Prop} {rec : Job → Option Out}

theorem heavyOk_of (hC : C.Tab) (hrec : RecOk C S rec) {e : Env} {s g : Heap} {o : Oper} {res : OpR} (hop : opEval C e s g o.op = res) (hne : (∀ v, res ≠ .val v) ∧ (∀ v, res ≠ .rd v) ∧ ∀ ob mk, res ≠ .new ob mk)
    {v : AV} {g' : Heap} (hd : doR rec g res = some (v, g')) : HeavyOk C S e g o v g' := by
  intro e₂ _ hx F i r a w R gE next Q hn
  refine heavy_ok hC hrec R gE (s := s) (res := res) ?_ hne hd hn
  rw [opEval_congr hx, hop]

theorem draw_ok (hC : C.Tab) (hrec : RecOk C S rec) {all : List Oper} {l : List (Oper × Nat × Nat)} {ds : List Nat} {e : Env} {s g : Heap} {sts : List Heap} {rds : List (Op × Env × Nat × Nat × AV)} {out : Out}
    (hs : stepDraw C rec all ds e s g sts rds l = some out) : JobOk C S (.draw all l ds e s g sts rds) out := by
  cases l with
  | nil =>
    simp only [stepDraw] at hs
    cases hr : readsOk C sts.reverse rds with
    | false => rw [hr] at hs; simp at hs
    | true =>
      rw [hr] at hs
      simp only [cond_true, Option.some.injEq] at hs; subst hs
      exact ⟨rfl, rfl, .done hr⟩
  | cons p l =>
    obtain ⟨o, lo, hi⟩ := p
    -- on from a job
    have on : ∀ {e' s' g' sts' rds'}, rec (.draw all l ds e' s' g' sts' rds') = some out → (∀ e₃ h₃, DrawT C S all e' s' g' sts' rds' l e₃ h₃ → DrawT C S all e s g sts rds ((o, lo, hi) :: l) e₃ h₃) →
        JobOk C S (.draw all ((o, lo, hi) :: l) ds e s g sts rds) out := by
      intro e' s' g' sts' rds' hr hk
      have ih := hrec _ _ hr
      cases out with
      | val v h => exact ih.elim
      | code x ds' e₃ h₃ =>
        obtain ⟨h1, h2, h3⟩ := ih
        exact ⟨h1, h2, hk _ _ h3⟩
    simp only [stepDraw] at hs
    split at hs
    · rename_i hw
      cases hk : isHeavy (kindOf C o.op) with
      | true => rw [hk] at hs; exact on hs fun _ _ => .noHeavy hw hk
      | false => rw [hk] at hs; exact on hs fun _ _ => .noLight hw hk
    · rename_i hw
      cases hop : opEval C e s g o.op with
      | val v => rw [hop] at hs; exact on hs fun _ _ => .val hw hop
      | rd v => rw [hop] at hs; exact on hs fun _ _ => .rd hw hop
      | new ob mk => rw [hop] at hs; exact on hs fun _ _ => .new hw hop
      | bad => rw [hop] at hs; simp [nextDraw, doR] at hs
      | wr v h' =>
        rw [hop] at hs
        simp only [nextDraw] at hs
        split at hs
        · rename_i v' g' hd
          rw [cond_ble] at hs
          split at hs
          · rename_i hle
            exact on hs fun _ _ => .heavy hw (by rw [kind_wr hop]; rfl) (heavyOk_of hC hrec hop ⟨by simp, by simp, by simp⟩ hd) hle
          · exact absurd hs (by simp)
        · exact absurd hs (by simp)
      | fn f args =>
        rw [hop] at hs
        simp only [nextDraw] at hs
        split at hs
        · rename_i v' g' hd
          rw [cond_ble] at hs
          split at hs
          · rename_i hle
            exact on hs fun _ _ => .heavy hw (by rw [kind_fn hop]; rfl) (heavyOk_of hC hrec hop ⟨by simp, by simp, by simp⟩ hd) hle
          · exact absurd hs (by simp)
        · exact absurd hs (by simp)
      | yield f args =>
        rw [hop] at hs
        simp only [nextDraw] at hs
        split at hs
        · rename_i v' g' hd
          rw [cond_ble] at hs
          split at hs
          · rename_i hle
            exact on hs fun _ _ => .heavy hw (by rw [kind_yield hop]; rfl) (heavyOk_of hC hrec hop ⟨by simp, by simp, by simp⟩ hd) hle
          · exact absurd hs (by simp)
        · exact absurd hs (by simp)
    · exact absurd hs (by simp)

/-- What the evaluator stands on. -/
structure CtxOk (C : Ctx) (S : String → Code → Prop) : Prop where
  tab : C.Tab
  fns : FnsOk C S
  sums : SumsOk C S
  csums : CsumsOk C S
  names : NamesOk C S
  draws : DrawsOk C S

/-- THE EVALUATOR IS SOUND. -/
theorem run_ok (h : CtxOk C S) : ∀ n, RecOk C S (run C n)
  | 0 => fun j out hr => by simp [run] at hr
  | n + 1 => fun j out hr => by
    have ih := run_ok h n
    simp only [run] at hr
    cases j with
    | code ro c ds e hp => exact code_ok h.tab ih h.draws h.csums h.names (fun ro f ps assign body ds e hp out hs => range_ok' h.fns ih ro f ps assign body ds e hp out hs) hr
    | ops all l ds e hp => exact ops_ok h.tab ih hr
    | draw all l ds e s g sts rds => exact draw_ok h.tab ih hr
    | call f args hp => exact call_ok h.tab h.fns h.sums ih hr
    | round l args hp => exact round_ok ih hr

end
end Go.Ev
namespace Go.Ev
noncomputable section

def restr (i : Emb) (n : Nat) : Emb := fun b => if b < n then i b else none
theorem restr_le (i : Emb) (n : Nat) : (restr i n).Le i := by
  intro b c h
  unfold restr at h
  split at h
  · exact h
  · cases h
theorem restr_lt {i : Emb} {n b : Nat} (h : b < n) : restr i n b = i b := by unfold restr; rw [if_pos h]
theorem restr_ge {i : Emb} {n b : Nat} (h : n ≤ b) : restr i n b = none := by unfold restr; rw [if_neg (by omega)]

/-- What is below a number in one world is so in each. -/
def Low (i₂ : Emb) (n : Nat) : Prop := ∀ b, n ≤ b → i₂ b = none
theorem Low.at {i i₂ : Emb} {n b : Nat} (h : Low i₂ n) {c : Nat × Nat} (hb : i₂ b = some c) : restr i n b = i b := by
  apply restr_lt
  rcases Nat.lt_or_ge b n with h1 | h1
  · exact h1
  · rw [h b h1] at hb; cases hb

mutual
theorem VRel.both {i i₂ : Emb} {n : Nat} (hl : Low i₂ n) : ∀ (v : AV) (y x : Value), VRel i₂ v y → VRel i v x → VRel (restr i n) v x
  | .bool _, _, _, _, g | .int _ _, _, _, _, g | .str _, _, _, _, g | .nilptr, _, _, _, g | .nilsl, _, _, _, g | .emp, _, _, _, g | .nilmap, _, _, _, g | .nilfn, _, _, _, g | .unk, _, _, _, g => by
    first
      | (simp only [VRel]; done)
      | (simp only [VRel] at g ⊢; exact g)
  | .ptr b _, _, _, g₂, g => by
    simp only [VRel] at g₂ g ⊢
    obtain ⟨c₂, h₂, _⟩ := g₂
    rw [hl.at h₂]; exact g
  | .sl b _ _ _, _, _, g₂, g => by
    simp only [VRel] at g₂ g ⊢
    obtain ⟨c₂, m₂, h₂, _⟩ := g₂
    rw [hl.at h₂]; exact g
  | .map b, _, _, g₂, g => by
    simp only [VRel] at g₂ g ⊢
    obtain ⟨c₂, h₂, _⟩ := g₂
    rw [hl.at h₂]; exact g
  | .yield b, _, _, g₂, g => by
    simp only [VRel] at g₂ g ⊢
    obtain ⟨c₂, h₂, _⟩ := g₂
    rw [hl.at h₂]; exact g
  | .fn _ l m, _, _, g₂, g => by
    simp only [VRel] at g₂ g ⊢
    obtain ⟨l₂, m₂, a₂, b₂, _⟩ := g₂
    obtain ⟨l', m', a, b, hx⟩ := g
    exact ⟨l', m', VRels.both hl l l₂ l' a₂ a, VRels.both hl m m₂ m' b₂ b, hx⟩
  | .agg l, _, _, g₂, g => by
    simp only [VRel] at g₂ g ⊢
    obtain ⟨l₂, a₂, _⟩ := g₂
    obtain ⟨l', a, hx⟩ := g
    exact ⟨l', VRels.both hl l l₂ l' a₂ a, hx⟩
  | .tup l, _, _, g₂, g => by
    simp only [VRel] at g₂ g ⊢
    obtain ⟨l₂, a₂, _⟩ := g₂
    obtain ⟨l', a, hx⟩ := g
    exact ⟨l', VRels.both hl l l₂ l' a₂ a, hx⟩
theorem VRels.both {i i₂ : Emb} {n : Nat} (hl : Low i₂ n) : ∀ (l : List AV) (m₂ m : List Value), VRels i₂ l m₂ → VRels i l m → VRels (restr i n) l m
  | [], _, [], _, _ => by simp [VRels]
  | v :: l, y :: m₂, x :: m, g₂, g => by
    simp only [VRels] at g₂ g ⊢
    exact ⟨VRel.both hl v y x g₂.1 g.1, VRels.both hl l m₂ m g₂.2 g.2⟩
  | [], _, _ :: _, _, g => by simp [VRels] at g
  | _ :: _, _, [], _, g => by simp [VRels] at g
  | _ :: _, [], _ :: _, g₂, _ => by simp [VRels] at g₂
end

theorem MRel.mem {i : Emb} : ∀ {l : List (AV × AV)} {m : List MapEntry}, MRel i l m → ∀ x ∈ l, (∃ y, VRel i x.1 y) ∧ ∃ y, VRel i x.2 y
  | [], [], _, x, hx => by simp at hx
  | (k, v) :: l, e :: m, g, x, hx => by
    simp only [MRel] at g
    rcases List.mem_cons.1 hx with rfl | hx
    · exact ⟨⟨_, g.1⟩, ⟨_, g.2.1⟩⟩
    · exact MRel.mem g.2.2 x hx
  | [], _ :: _, g, _, _ => by simp [MRel] at g
  | (_, _) :: _, [], g, _, _ => by simp [MRel] at g
theorem MRel.both {i i₂ : Emb} {n : Nat} (hl : Low i₂ n) : ∀ {l : List (AV × AV)} {m : List MapEntry}, (∀ x ∈ l, (∃ y, VRel i₂ x.1 y) ∧ ∃ y, VRel i₂ x.2 y) → MRel i l m → MRel (restr i n) l m
  | [], [], _, _ => by simp [MRel]
  | (k, v) :: l, e :: m, h, g => by
    simp only [MRel] at g ⊢
    obtain ⟨⟨y, hy⟩, ⟨z, hz⟩⟩ := h (k, v) (by simp)
    exact ⟨VRel.both hl _ _ _ hy g.1, VRel.both hl _ _ _ hz g.2.1, MRel.both hl (fun x hx => h x (by simp [hx])) g.2.2⟩
  | [], _ :: _, _, g => by simp [MRel] at g
  | (_, _) :: _, [], _, g => by simp [MRel] at g

theorem ORel.both {S : String → Code → Prop} {i i₂ : Emb} {n : Nat} (hl : Low i₂ n) {t₂ tot : Nat} {a : AObj} {o₂ o : Option Obj} (g₂ : ORel S i₂ t₂ a o₂) (g : ORel S i tot a o) : ORel S (restr i n) tot a o := by
  cases a with
  | cells cs =>
    obtain ⟨arr₂, _, _, _, _, _, _, v₂, _⟩ := g₂
    obtain ⟨arr, el, lo, hi, h1, h2, h3, h4, h5⟩ := g
    exact ⟨arr, el, lo, hi, h1, h2, h3, VRels.both hl _ _ _ v₂ h4, h5⟩
  | ro cs =>
    obtain ⟨arr₂, _, _, _, _, _, v₂⟩ := g₂
    obtain ⟨arr, el, fz, h1, h2, h3, h4⟩ := g
    exact ⟨arr, el, fz, h1, h2, h3, VRels.both hl _ _ _ v₂ h4⟩
  | map es clock =>
    obtain ⟨ents₂, _, m₂, _⟩ := g₂
    obtain ⟨ents, h1, h2, h3, h4, h5⟩ := g
    exact ⟨ents, h1, MRel.both hl m₂.mem h2, h3, h4, h5⟩
  | umap es clock =>
    obtain ⟨ents₂, l₂, _, p₂, m₂, _⟩ := g₂
    obtain ⟨ents, l, h1, h2, h3, h4, h5⟩ := g
    refine ⟨ents, l, h1, h2, MRel.both hl (fun x hx => m₂.mem x ?_) h3, h4, h5⟩
    exact p₂.symm.mem_iff.1 (h2.mem_iff.1 hx)
  | miter m =>
    cases m with
    | none => exact g
    | some p =>
      obtain ⟨b, clock⟩ := p
      obtain ⟨c₂, h₂, _⟩ := g₂
      obtain ⟨c, hc, m, hm⟩ := g
      exact ⟨c, by rw [hl.at h₂]; exact hc, m, hm⟩
  | loop r =>
    obtain ⟨R₂, _, _, _, e₂, _, _, _, c₂, hc₂, _⟩ := g₂
    obtain ⟨R, h1, h2, h3, h4, h5, h6, h7, c, hc, h8⟩ := g
    exact ⟨R, h1, h2, h3, ⟨h4.1, fun t => VRel.both hl _ _ _ (e₂.2 t) (h4.2 t)⟩, h5, h6, h7, c, by rw [hl.at hc₂]; exact hc, h8⟩
  | defd => exact g
  | dead => exact g

def overlay (G X : Nat → Option AObj) : Nat → Option AObj := fun b => match X b with | some o => some o | none => G b
theorem overlay_some {G X : Nat → Option AObj} {b : Nat} {o : AObj} (h : X b = some o) : overlay G X b = some o := by simp [overlay, h]
theorem overlay_none {G X : Nat → Option AObj} {b : Nat} (h : X b = none) : overlay G X b = G b := by simp [overlay, h]

section
variable {S : String → Code → Prop} {F : Fr} {i : Emb} {w : World} {X : Nat → Option AObj}

/-- An operation that sees one part alone. -/
theorem part_step {g : Heap} {N : Nat} (R : Rel S F i (overlay g.get X) N w) (hX : ∀ b o, X b = some o → o.own = true ∧ g.next ≤ b) (hJ : ∀ b, g.next ≤ b → i b ≠ none → X b ≠ none)
    (wit : ∃ F₂ i₂ w₂, Rel S F₂ i₂ g.get g.next w₂) :
    ∃ F', Rel S F' (restr i g.next) g.get g.next w ∧ ∀ (g' : Heap) (j : Emb) (w' : World), (restr i g.next).Le j → Rel S F' j g'.get g'.next w' → g.next ≤ g'.next → (∀ b o, X b = some o → g'.next ≤ b) → g'.next ≤ N →
      ∃ i₁, i.Le i₁ ∧ j.Le i₁ ∧ Rel S F i₁ (overlay g'.get X) N w' ∧ ∀ b, g'.next ≤ b → i₁ b ≠ none → X b ≠ none := by
  obtain ⟨F₂, i₂, w₂, R₂⟩ := wit
  have hlow : Low i₂ g.next := fun b hb => (R₂.fresh b hb).1
  -- a block of g is no extra
  have gX : ∀ b o, g.get b = some o → X b = none := by
    intro b o hb
    cases hx : X b with
    | none => rfl
    | some x => have := R₂.fresh b (hX b x hx).2; rw [this.2] at hb; cases hb
  have glt : ∀ b o, g.get b = some o → b < g.next := by
    intro b o hb
    rcases Nat.lt_or_ge b g.next with h1 | h1
    · exact h1
    · have := R₂.fresh b h1; rw [this.2] at hb; cases hb
  classical
  let hid : Nat → Prop := fun c => ∃ b o t, X b = some o ∧ i b = some (c, t)
  have hidF : ∀ c, hid c → F.blocks c = none := by
    rintro c ⟨b, o, t, hb, hi⟩
    exact R.apart b o (c, t) (overlay_some hb) (hX b o hb).1 hi
  let F' : Fr := { F with
    blocks := fun c => if hid c then w.heap[c]? else F.blocks c
    roIn := by
      intro c hc
      have := F.roIn c hc
      rw [if_neg (by intro hh; rw [hidF c hh] at this; cases this)]
      exact this }
  have hidSome : ∀ c, hid c → ∃ o, w.heap[c]? = some o := by
    rintro c ⟨b, o, t, hb, hi⟩
    obtain ⟨c', hc', hr⟩ := R.objs b o (overlay_some hb) (AObj.own_live (hX b o hb).1)
    rw [hi] at hc'; cases hc'
    exact hr.some (AObj.own_live (hX b o hb).1)
  have F'none : ∀ c, F'.blocks c = none → ¬ hid c ∧ F.blocks c = none := by
    intro c hc
    have hc' : (if hid c then w.heap[c]? else F.blocks c) = none := hc
    by_cases hh : hid c
    · obtain ⟨o, ho⟩ := hidSome c hh; rw [if_pos hh, ho] at hc'; cases hc'
    · rw [if_neg hh] at hc'; exact ⟨hh, hc'⟩
  refine ⟨F', ?_, ?_⟩
  · refine { objs := ?_, inj := ?_, fresh := ?_, keep := ?_, apart := ?_, roFr := ?_, os := R.os, output := R.output, tape := R.tape }
    · intro b o hb ho
      obtain ⟨c, hc, hr⟩ := R.objs b o (by rw [overlay_none (gX b o hb)]; exact hb) ho
      obtain ⟨c₂, _, hr₂⟩ := R₂.objs b o hb ho
      exact ⟨c, by rw [restr_lt (glt b o hb)]; exact hc, ORel.both hlow hr₂ hr⟩
    · intro b b' o o' c c' hb hb' ho ho' hc hc' he
      exact R.inj b b' o o' c c' (by rw [overlay_none (gX b o hb)]; exact hb) (by rw [overlay_none (gX b' o' hb')]; exact hb') ho ho' (restr_le _ _ _ _ hc) (restr_le _ _ _ _ hc') he
    · intro b hb; exact ⟨restr_ge hb, (R₂.fresh b hb).2⟩
    · intro c o hc
      have hc' : (if hid c then w.heap[c]? else F.blocks c) = some o := hc
      by_cases hh : hid c
      · rw [if_pos hh] at hc'; exact hc'
      · rw [if_neg hh] at hc'; exact R.keep c o hc'
    · intro b o c hb ho hc
      have hG : overlay g.get X b = some o := by rw [overlay_none (gX b o hb)]; exact hb
      have hF := R.apart b o c hG ho (restr_le _ _ _ _ hc)
      show (if hid c.1 then w.heap[c.1]? else F.blocks c.1) = none
      rw [if_neg, hF]
      rintro ⟨b', o', t, hb', hi'⟩
      have := R.inj b b' o o' c (c.1, t) hG (overlay_some hb') ho (hX b' o' hb').1 (restr_le _ _ _ _ hc) hi' rfl
      subst this
      rw [gX b o hb] at hb'; cases hb'
    · intro b cs c hb hc
      exact R.roFr b cs c (by rw [overlay_none (gX b _ hb)]; exact hb) (restr_le _ _ _ _ hc)
  · intro g' j w' hj R' hle hX' hN
    have gX' : ∀ b o, g'.get b = some o → X b = none := by
      intro b o hb
      cases hx : X b with
      | none => rfl
      | some x => have := R'.fresh b (hX' b x hx); rw [this.2] at hb; cases hb
    let i₁ : Emb := fun b => if b < g'.next then j b else i b
    have hji : j.Le i₁ := by
      intro b c hb
      show (if b < g'.next then j b else i b) = some c
      rw [if_pos]
      · exact hb
      · rcases Nat.lt_or_ge b g'.next with h1 | h1
        · exact h1
        · rw [(R'.fresh b h1).1] at hb; cases hb
    have hii : i.Le i₁ := by
      intro b c hb
      show (if b < g'.next then j b else i b) = some c
      by_cases h1 : b < g'.next
      · rw [if_pos h1]
        by_cases h2 : b < g.next
        · exact hj b c (by rw [restr_lt h2]; exact hb)
        · exfalso
          have := hJ b (by omega) (by rw [hb]; simp)
          cases hx : X b with
          | none => exact this hx
          | some o => have := hX' b o hx; omega
      · rw [if_neg h1]; exact hb
    have i₁lt : ∀ b c, b < g'.next → i₁ b = some c → j b = some c := by
      intro b c hb hc
      have hc' : (if b < g'.next then j b else i b) = some c := hc
      rw [if_pos hb] at hc'; exact hc'
    have i₁ge : ∀ b, g'.next ≤ b → i₁ b = i b := by
      intro b hb
      show (if b < g'.next then j b else i b) = i b
      rw [if_neg (by omega)]
    have glt' : ∀ b o, g'.get b = some o → b < g'.next := by
      intro b o hb
      rcases Nat.lt_or_ge b g'.next with h1 | h1
      · exact h1
      · have := R'.fresh b h1; rw [this.2] at hb; cases hb
    refine ⟨i₁, hii, hji, ?_, ?_⟩
    · -- a block of the overlay
      have cases' : ∀ b o, overlay g'.get X b = some o → (X b = some o) ∨ (X b = none ∧ g'.get b = some o) := by
        intro b o hb
        cases hx : X b with
        | none => rw [overlay_none hx] at hb; exact .inr ⟨rfl, hb⟩
        | some x => rw [overlay_some hx] at hb; exact .inl hb
      have ex : ∀ b o, X b = some o → ∀ c, i₁ b = some c → i b = some c := by
        intro b o hb c hc; rw [i₁ge b (hX' b o hb)] at hc; exact hc
      have exF : ∀ b o c, X b = some o → i b = some c → F'.blocks c.1 = w.heap[c.1]? := by
        intro b o c hb hc
        show (if hid c.1 then w.heap[c.1]? else F.blocks c.1) = _
        rw [if_pos ⟨b, o, c.2, hb, hc⟩]
      refine { objs := ?_, inj := ?_, fresh := ?_, keep := ?_, apart := ?_, roFr := ?_, os := R'.os, output := R'.output, tape := R'.tape }
      · intro b o hb ho
        rcases cases' b o hb with hx | ⟨hx, hg⟩
        · obtain ⟨c, hc, hr⟩ := R.objs b o (overlay_some hx) ho
          obtain ⟨O, hO⟩ := hr.some ho
          have hk := R'.keep c.1 O (by rw [exF b o c hx hc]; exact hO)
          refine ⟨c, hii b c hc, ?_⟩
          rw [hk, ← hO]
          exact hr.mono hii
        · obtain ⟨c, hc, hr⟩ := R'.objs b o hg ho
          exact ⟨c, hji b c hc, hr.mono hji⟩
      · intro b b' o o' c c' hb hb' ho ho' hc hc' he
        rcases cases' b o hb with hx | ⟨hx, hg⟩ <;> rcases cases' b' o' hb' with hx' | ⟨hx', hg'⟩
        · exact R.inj b b' o o' c c' (overlay_some hx) (overlay_some hx') ho ho' (ex b o hx c hc) (ex b' o' hx' c' hc') he
        · exfalso
          have h1 := R'.apart b' o' c' hg' ho' (i₁lt b' c' (glt' b' o' hg') hc')
          have h2 := exF b o c hx (ex b o hx c hc)
          obtain ⟨O, hO⟩ := hidSome c.1 ⟨b, o, c.2, hx, ex b o hx c hc⟩
          rw [he, h1] at h2
          rw [← he, hO] at h2; cases h2
        · exfalso
          have h1 := R'.apart b o c hg ho (i₁lt b c (glt' b o hg) hc)
          have h2 := exF b' o' c' hx' (ex b' o' hx' c' hc')
          obtain ⟨O, hO⟩ := hidSome c'.1 ⟨b', o', c'.2, hx', ex b' o' hx' c' hc'⟩
          rw [← he, h1] at h2
          rw [he, hO] at h2; cases h2
        · exact R'.inj b b' o o' c c' hg hg' ho ho' (i₁lt b c (glt' b o hg) hc) (i₁lt b' c' (glt' b' o' hg') hc') he
      · intro b hb
        have hx : X b = none := by
          have := (R.fresh b hb).2
          cases hx : X b with
          | none => rfl
          | some o => rw [overlay_some hx] at this; cases this
        refine ⟨?_, ?_⟩
        · rw [i₁ge b (by omega)]; exact (R.fresh b hb).1
        · rw [overlay_none hx]; exact (R'.fresh b (by omega)).2
      · intro c o hc
        refine R'.keep c o ?_
        show (if hid c then w.heap[c]? else F.blocks c) = some o
        by_cases hh : hid c
        · rw [hidF c hh] at hc; cases hc
        · rw [if_neg hh]; exact hc
      · intro b o c hb ho hc
        rcases cases' b o hb with hx | ⟨hx, hg⟩
        · exact R.apart b o c (overlay_some hx) ho (ex b o hx c hc)
        · exact (F'none c.1 (R'.apart b o c hg ho (i₁lt b c (glt' b o hg) hc))).2
      · intro b cs c hb hc
        rcases cases' b _ hb with hx | ⟨hx, hg⟩
        · have := (hX b _ hx).1; simp [AObj.own] at this
        · exact R'.roFr b cs c hg (i₁lt b c (glt' b _ hg) hc)
    · intro b hb hc
      rw [i₁ge b hb] at hc
      exact hJ b (by omega) hc

end
end
end Go.Ev
