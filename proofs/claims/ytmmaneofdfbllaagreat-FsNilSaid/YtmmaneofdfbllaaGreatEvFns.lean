/-
  EvFns: tables of functions with pieces cut out. No condition.
-/
import Derived.Test.YtmmaneofdfbllaaGreatEvLoop
set_option linter.unusedVariables false
set_option linter.unusedSimpArgs false
set_option linter.unusedSectionVars false
namespace Go.Ev
noncomputable section

theorem bodyOf_ok {c : Code} {r2 : Nat} {o : Oper} {x : Operand} {l : List Oper} {rest : Code} (h : bodyOf c = some (r2, o, x, l, rest)) : c = .seq (.region r2 (o :: l).toArray false) rest ∧ o.op = .entry x := by
  unfold bodyOf at h
  split at h
  · rename_i r2' ops rest'
    split at h
    · rename_i o' l' hl
      split at h
      · rename_i x' hx
        simp only [Option.some.injEq, Prod.mk.injEq] at h
        obtain ⟨rfl, rfl, rfl, rfl, rfl⟩ := h
        refine ⟨?_, hx⟩
        rw [← hl]
      · cases h
    · cases h
  · cases h
theorem mloopOf_ok {c : Code} {L : MLoop} (h : mloopOf c = some L) : c = .block L.id (.loop (L.round L.rest)) ∧ L.nx.op = .next L.it false ∧ L.en.op = .entry L.it2 := by
  unfold mloopOf at h
  split at h
  · rename_i id r1 nops cc id' id2 x
    split at h
    · rename_i a nl r2 o it2 l rest hl hb
      split at h
      · rename_i it hnx
        cases hid : id.beq id' with
        | false => rw [hid] at h; simp at h
        | true =>
          rw [hid] at h
          simp only [cond_true, Option.some.injEq] at h
          subst h
          rw [beq_nat, decide_eq_true_eq] at hid
          subst hid
          obtain ⟨h1, h2⟩ := bodyOf_ok hb
          refine ⟨?_, hnx, h2⟩
          unfold MLoop.round
          rw [h1, ← hl]
      · cases h
    · cases h
  · cases h

/-- Code in which nothing has been cut. -/
def whole : Code → Bool
  | .skip | .label _ | .region .. | .exit _ | .ret => true
  | .seq a b => whole a && whole b
  | .cond _ a b => whole a && whole b
  | .block _ a | .loop a | .scope a => whole a
  | .rangeFunc _ _ a b => whole a && whole b
  | .goto _ | .refuse _ => false
theorem CR.refl {S : String → Code → Prop} : ∀ {c : Code}, whole c = true → CR S c c
  | .skip, _ => .skip
  | .label l, _ => .label l
  | .region id ops d, _ => .region id ops d
  | .exit id, _ => .exit id
  | .ret, _ => .ret
  | .seq a b, h => by simp only [whole, Bool.and_eq_true] at h; exact .seq (CR.refl h.1) (CR.refl h.2)
  | .cond _ a b, h => by simp only [whole, Bool.and_eq_true] at h; exact .cond (CR.refl h.1) (CR.refl h.2)
  | .block _ a, h => by simp only [whole] at h; exact .block (CR.refl h)
  | .loop a, h => by simp only [whole] at h; exact .loop (CR.refl h)
  | .scope a, h => by simp only [whole] at h; exact .scope (CR.refl h)
  | .rangeFunc _ _ a b, h => by simp only [whole, Bool.and_eq_true] at h; exact .range (CR.refl h.1) (CR.refl h.2)
  | .goto _, h => by simp [whole] at h
  | .refuse _, h => by simp [whole] at h

/-- Pieces of code by their names, each with its function's number. -/
abbrev Names := List (String × FuncId × Code)
def named (T : Names) (s : String) : Option (FuncId × Code) :=
  match T with
  | [] => none
  | (n, c) :: l => bif s == n then some c else named l s
def inNames (T : Names) (s : String) (c : Code) : Prop := ∃ f, named T s = some (f, c)
def csumOf (T : Names) (s : String) : Option ((Job → Option Out) → List Nat → Env → Heap → Option (Env × Heap)) :=
  match named T s with
  | some (_, c) =>
    match mloopOf c with
    | some L => bif whole L.rest then some (mloop L) else none
    | none => none
  | none => none
theorem csums_ok {C : Ctx} {T : Names} (h : C.csum = csumOf T) : CsumsOk C (inNames T) := by
  intro s g hg rec hrec ds e hp e' h' hr c' hS F i a w R gE gD
  obtain ⟨f, hS⟩ := hS
  rw [h] at hg
  unfold csumOf at hg
  rw [hS] at hg
  simp only at hg
  split at hg
  · rename_i L hL
    cases hw : whole L.rest with
    | false => rw [hw] at hg; simp at hg
    | true =>
      rw [hw] at hg
      simp only [cond_true, Option.some.injEq] at hg
      subst hg
      obtain ⟨h1, h2, h3⟩ := mloopOf_ok hL
      rw [h1]
      exact mloop_ok hrec h2 h3 (CR.refl hw) hr R gE gD
  · cases hg

end
end Go.Ev
namespace Go.Ev
noncomputable section

def isSome' {α : Type} : Option α → Bool
  | some _ => true
  | none => false
def rangeOr (n : String × String) (b c : Code) : Code :=
  match b with
  | .rangeFunc f ps _ _ => .rangeFunc f ps (.refuse n.1) (.refuse n.2)
  | _ => c
def rangesOr (n : String × String) (b : Code) (l : List (String × Code)) : List (String × Code) :=
  match b with
  | .rangeFunc _ _ x y => [(n.1, x), (n.2, y)]
  | _ => l
section
variable (nm : Nat → String) (nr : Nat → String × String)
def cutC : Code → Code
  | .block id b => bif isSome' (mloopOf (.block id b)) then .refuse (nm id) else .block id (rangeOr (nr id) b (cutC b))
  | .seq a b => .seq (cutC a) (cutC b)
  | .cond c a b => .cond c (cutC a) (cutC b)
  | .loop a => .loop (cutC a)
  | .scope a => .scope (cutC a)
  | .rangeFunc f ps a b => .rangeFunc f ps (cutC a) (cutC b)
  | c => c
/-- What is cut out. -/
def loopsC : Code → List (String × Code)
  | .block id b => bif isSome' (mloopOf (.block id b)) then [(nm id, .block id b)] else rangesOr (nr id) b (loopsC b)
  | .seq a b => loopsC a ++ loopsC b
  | .cond _ a b => loopsC a ++ loopsC b
  | .loop a => loopsC a
  | .scope a => loopsC a
  | .rangeFunc _ _ a b => loopsC a ++ loopsC b
  | _ => []
/-- What is cut out, and out of that. -/
def allC : Code → List (String × Code)
  | .block id b => bif isSome' (mloopOf (.block id b)) then [(nm id, .block id b)] else rangesOr (nr id) b [] ++ allC b
  | .seq a b => allC a ++ allC b
  | .cond _ a b => allC a ++ allC b
  | .loop a => allC a
  | .scope a => allC a
  | .rangeFunc _ _ a b => allC a ++ allC b
  | _ => []
end
section
variable {nm : Nat → String} {nr : Nat → String × String}
theorem cutC_ok {S : String → Code → Prop} : ∀ {c : Code}, whole c = true → (∀ x ∈ loopsC nm nr c, S x.1 x.2) → CR S (cutC nm nr c) c
  | .skip, _, _ => .skip
  | .label l, _, _ => .label l
  | .region id ops d, _, _ => .region id ops d
  | .exit id, _, _ => .exit id
  | .ret, _, _ => .ret
  | .seq a b, h, g => by
    simp only [whole, Bool.and_eq_true] at h; simp only [loopsC] at g
    exact .seq (cutC_ok h.1 fun x hx => g x (by simp [hx])) (cutC_ok h.2 fun x hx => g x (by simp [hx]))
  | .cond _ a b, h, g => by
    simp only [whole, Bool.and_eq_true] at h; simp only [loopsC] at g
    exact .cond (cutC_ok h.1 fun x hx => g x (by simp [hx])) (cutC_ok h.2 fun x hx => g x (by simp [hx]))
  | .block id a, h, g => by
    simp only [whole] at h
    simp only [loopsC] at g
    simp only [cutC]
    cases hm : isSome' (mloopOf (.block id a)) with
    | true => rw [hm] at g; exact .sum (g (nm id, .block id a) (by simp))
    | false =>
      rw [hm] at g
      simp only [cond_false] at g ⊢
      refine .block ?_
      by_cases hr : ∃ f ps x y, a = .rangeFunc f ps x y
      · obtain ⟨f, ps, x, y, rfl⟩ := hr
        simp only [rangesOr] at g
        exact .range (.sum (g ((nr id).1, x) (by simp))) (.sum (g ((nr id).2, y) (by simp)))
      · have h1 : ∀ n c, rangeOr n a c = c := by intro n c; unfold rangeOr; split <;> simp_all
        have h2 : ∀ n l, rangesOr n a l = l := by intro n l; unfold rangesOr; split <;> simp_all
        rw [h1]; rw [h2] at g
        exact cutC_ok h g
  | .loop a, h, g => by simp only [whole] at h; simp only [loopsC] at g; exact .loop (cutC_ok h g)
  | .scope a, h, g => by simp only [whole] at h; simp only [loopsC] at g; exact .scope (cutC_ok h g)
  | .rangeFunc _ _ a b, h, g => by
    simp only [whole, Bool.and_eq_true] at h; simp only [loopsC] at g
    exact .range (cutC_ok h.1 fun x hx => g x (by simp [hx])) (cutC_ok h.2 fun x hx => g x (by simp [hx]))
  | .goto _, h, _ => by simp [whole] at h
  | .refuse _, h, _ => by simp [whole] at h
theorem rangesOr_mem {n : String × String} {b : Code} {l : List (String × Code)} {x : String × Code} (h : x ∈ rangesOr n b l) : x ∈ rangesOr n b [] ∨ x ∈ l := by
  unfold rangesOr at h ⊢
  split at h
  · exact .inl h
  · exact .inr h
theorem loopsC_all : ∀ {c : Code} {x : String × Code}, x ∈ loopsC nm nr c → x ∈ allC nm nr c
  | .seq a b, x, h => by
    simp only [loopsC, allC, List.mem_append] at h ⊢
    exact h.elim (fun h => .inl (loopsC_all h)) fun h => .inr (loopsC_all h)
  | .cond _ a b, x, h => by
    simp only [loopsC, allC, List.mem_append] at h ⊢
    exact h.elim (fun h => .inl (loopsC_all h)) fun h => .inr (loopsC_all h)
  | .rangeFunc _ _ a b, x, h => by
    simp only [loopsC, allC, List.mem_append] at h ⊢
    exact h.elim (fun h => .inl (loopsC_all h)) fun h => .inr (loopsC_all h)
  | .loop a, x, h => by simp only [loopsC, allC] at h ⊢; exact loopsC_all h
  | .scope a, x, h => by simp only [loopsC, allC] at h ⊢; exact loopsC_all h
  | .block id a, x, h => by
    simp only [loopsC, allC] at h ⊢
    cases hm : isSome' (mloopOf (.block id a)) with
    | true => rw [hm] at h; exact h
    | false =>
      rw [hm] at h
      simp only [cond_false, List.mem_append] at h ⊢
      exact (rangesOr_mem h).elim .inl fun h => .inr (loopsC_all h)
  | .skip, x, h => by simp [loopsC] at h
  | .label _, x, h => by simp [loopsC] at h
  | .region _ _ _, x, h => by simp [loopsC] at h
  | .exit _, x, h => by simp [loopsC] at h
  | .ret, x, h => by simp [loopsC] at h
  | .goto _, x, h => by simp [loopsC] at h
  | .refuse _, x, h => by simp [loopsC] at h
/-- What is cut out of a piece that was cut out is listed. -/
theorem allC_closed : ∀ {c : Code} {n : String} {x : Code}, (n, x) ∈ allC nm nr c → isSome' (mloopOf x) = false → ∀ {y : String × Code}, y ∈ loopsC nm nr x → y ∈ allC nm nr c
  | .seq a b, n, x, h, hx, y, hy => by
    simp only [allC, List.mem_append] at h ⊢
    exact h.elim (fun h => .inl (allC_closed h hx hy)) fun h => .inr (allC_closed h hx hy)
  | .cond _ a b, n, x, h, hx, y, hy => by
    simp only [allC, List.mem_append] at h ⊢
    exact h.elim (fun h => .inl (allC_closed h hx hy)) fun h => .inr (allC_closed h hx hy)
  | .rangeFunc _ _ a b, n, x, h, hx, y, hy => by
    simp only [allC, List.mem_append] at h ⊢
    exact h.elim (fun h => .inl (allC_closed h hx hy)) fun h => .inr (allC_closed h hx hy)
  | .loop a, n, x, h, hx, y, hy => by simp only [allC] at h ⊢; exact allC_closed h hx hy
  | .scope a, n, x, h, hx, y, hy => by simp only [allC] at h ⊢; exact allC_closed h hx hy
  | .block id a, n, x, h, hx, y, hy => by
    simp only [allC] at h ⊢
    cases hm : isSome' (mloopOf (.block id a)) with
    | true =>
      rw [hm] at h
      simp only [cond_true, List.mem_singleton, Prod.mk.injEq] at h
      obtain ⟨rfl, rfl⟩ := h
      rw [hm] at hx; cases hx
    | false =>
      rw [hm] at h
      simp only [cond_false, List.mem_append] at h ⊢
      rcases h with h | h
      · right
        unfold rangesOr at h
        split at h
        · rename_i f ps p q
          simp only [List.mem_cons, Prod.mk.injEq, List.not_mem_nil, or_false] at h
          simp only [allC, List.mem_append]
          rcases h with ⟨_, rfl⟩ | ⟨_, rfl⟩
          · exact .inl (loopsC_all hy)
          · exact .inr (loopsC_all hy)
        · simp at h
      · exact .inr (allC_closed h hx hy)
  | .skip, _, _, h, _, _, _ => by simp [allC] at h
  | .label _, _, _, h, _, _, _ => by simp [allC] at h
  | .region _ _ _, _, _, h, _, _, _ => by simp [allC] at h
  | .exit _, _, _, h, _, _, _ => by simp [allC] at h
  | .ret, _, _, h, _, _, _ => by simp [allC] at h
  | .goto _, _, _, h, _, _, _ => by simp [allC] at h
  | .refuse _, _, _, h, _, _, _ => by simp [allC] at h
end

theorem named_mem : ∀ {T : Names} {n : String} {c : FuncId × Code}, (T.map (·.1)).Nodup → (n, c) ∈ T → named T n = some c
  | [], _, _, _, h => by simp at h
  | (m, d) :: l, n, c, hn, h => by
    simp only [List.map_cons, List.nodup_cons] at hn
    simp only [named]
    rcases List.mem_cons.1 h with h1 | h1
    · simp only [Prod.mk.injEq] at h1; obtain ⟨rfl, rfl⟩ := h1; simp
    · have hne : n ≠ m := fun e => hn.1 (List.mem_map.2 ⟨(n, c), h1, e⟩)
      have hb : (n == m) = false := by simpa using hne
      rw [hb]; exact named_mem hn.2 h1
theorem named_in : ∀ {T : Names} {n : String} {c : FuncId × Code}, named T n = some c → (n, c) ∈ T
  | [], _, _, h => by simp [named] at h
  | (m, d) :: l, n, c, h => by
    simp only [named] at h
    cases hb : n == m with
    | true =>
      rw [hb] at h; simp only [cond_true, Option.some.injEq] at h; subst h
      rw [beq_iff_eq] at hb; subst hb; simp
    | false => rw [hb] at h; exact List.mem_cons_of_mem _ (named_in h)

end
end Go.Ev
namespace Go.Ev
noncomputable section

section
variable (P : Program) (nm : FuncId → Nat → String) (nr : FuncId → Nat → String × String)
def fnOf (f : FuncId) (fn : Func) : Option Func :=
  bif fn.name == "runtime.NumGoroutine" then none else
  match fn.body with
  | some c => bif whole c then some { fn with body := some (cutC (nm f) (nr f) c) } else none
  | none => none
def fnsOf (f : FuncId) : Option Func :=
  match P.funcs[f]? with
  | some fn => fnOf nm nr f fn
  | none => none
/-- The table of some functions' names. -/
def tabAt (f : FuncId) : Names :=
  match P.funcs[f]? with
  | some fn =>
    match fn.body with
    | some c => (allC (nm f) (nr f) c).map fun x => (x.1, f, x.2)
    | none => []
  | none => []
def tabOf : List FuncId → Names
  | [] => []
  | f :: l => tabAt P nm nr f ++ tabOf l
/-- The functions beside some have nothing cut out. -/
def noCuts (skip : Nat → Bool) : List Func → Nat → Bool
  | [], _ => true
  | fn :: l, i =>
    (match fn.body with
     | some c => (match loopsC (nm i) (nr i) c with | [] => true | _ => skip i)
     | none => true) && noCuts skip l (i + 1)
def cnameOf (T : Names) (s : String) : Option Code :=
  match named T s with
  | some (f, c) => bif isSome' (mloopOf c) then none else bif whole c then some (cutC (nm f) (nr f) c) else none
  | none => none
end
def skipOf (l : List Nat) (i : Nat) : Bool :=
  match l with
  | [] => false
  | a :: l => bif a.beq i then true else skipOf l i
theorem skipOf_mem : ∀ {l : List Nat} {i : Nat}, skipOf l i = true → i ∈ l
  | [], _, h => by simp [skipOf] at h
  | a :: l, i, h => by
    simp only [skipOf, cond_beq] at h
    split at h
    · rename_i hh; simp [hh]
    · exact List.mem_cons_of_mem _ (skipOf_mem h)
section
variable {P : Program} {nm : FuncId → Nat → String} {nr : FuncId → Nat → String × String}
theorem noCuts_ok {skip : Nat → Bool} : ∀ {l : List Func} {k : Nat}, noCuts nm nr skip l k = true → ∀ (j : Nat) (fn : Func) (c : Code), l[j]? = some fn → fn.body = some c → loopsC (nm (k + j)) (nr (k + j)) c = [] ∨ skip (k + j) = true
  | [], _, _, j, _, _, h, _ => by simp at h
  | fn :: l, k, h, 0, f, c, hf, hc => by
    simp only [List.getElem?_cons_zero, Option.some.injEq] at hf; subst hf
    simp only [noCuts, Bool.and_eq_true, hc] at h
    obtain ⟨h, _⟩ := h
    split at h
    · rename_i h0; exact .inl h0
    · exact .inr h
  | fn :: l, k, h, j + 1, f, c, hf, hc => by
    simp only [List.getElem?_cons_succ] at hf
    simp only [noCuts, Bool.and_eq_true] at h
    have := noCuts_ok h.2 j f c hf hc
    rwa [show k + 1 + j = k + (j + 1) by omega] at this
theorem tabOf_mem {f : FuncId} {fn : Func} {c : Code} (hf : P.funcs[f]? = some fn) (hc : fn.body = some c) {x : String × Code} (hx : x ∈ allC (nm f) (nr f) c) : ∀ {l : List Nat}, f ∈ l → (x.1, f, x.2) ∈ tabOf P nm nr l
  | [], h => by simp at h
  | a :: l, h => by
    simp only [tabOf, List.mem_append]
    rcases List.mem_cons.1 h with h | h
    · subst h; left; unfold tabAt; rw [hf]; simp only [hc, List.mem_map]; exact ⟨x, hx, rfl⟩
    · exact .inr (tabOf_mem hf hc hx h)
theorem tabOf_from : ∀ {l : List Nat} {n : String} {f : FuncId} {c : Code}, (n, f, c) ∈ tabOf P nm nr l → ∃ fn b, f ∈ l ∧ P.funcs[f]? = some fn ∧ fn.body = some b ∧ (n, c) ∈ allC (nm f) (nr f) b
  | [], _, _, _, h => by simp [tabOf] at h
  | a :: l, n, f, c, h => by
    simp only [tabOf, List.mem_append] at h
    rcases h with h | h
    · unfold tabAt at h
      split at h
      · rename_i fn hfn
        split at h
        · rename_i b hb
          simp only [List.mem_map, Prod.mk.injEq] at h
          obtain ⟨x, hx, rfl, rfl, rfl⟩ := h
          exact ⟨fn, b, by simp, hfn, hb, hx⟩
        · simp at h
      · simp at h
    · obtain ⟨fn, b, h1, h2⟩ := tabOf_from h
      exact ⟨fn, b, List.mem_cons_of_mem _ h1, h2⟩

variable {C : Ctx} {l : List Nat}
theorem fns_ok (h : C.fn = fnsOf C.P nm nr) (hn : ((tabOf C.P nm nr l).map (·.1)).Nodup) (hc : noCuts nm nr (skipOf l) C.P.funcs.toList 0 = true) : FnsOk C (inNames (tabOf C.P nm nr l)) := by
  intro f fn hf
  rw [h] at hf
  unfold fnsOf at hf
  split at hf
  · rename_i fn₀ hp
    unfold fnOf at hf
    cases hnn : (fn₀.name == "runtime.NumGoroutine") with
    | true => rw [hnn] at hf; simp at hf
    | false =>
      rw [hnn] at hf
      simp only [cond_false] at hf
      split at hf
      · rename_i c hcb
        cases hw : whole c with
        | false => rw [hw] at hf; simp at hf
        | true =>
          rw [hw] at hf
          simp only [cond_true, Option.some.injEq] at hf
          subst hf
          refine ⟨fn₀, hp, rfl, rfl, hnn, by rw [hcb]; rfl, fun c' hc' => ?_⟩
          simp only [Option.some.injEq] at hc'; subst hc'
          refine ⟨c, hcb, cutC_ok hw fun x hx => ?_⟩
          have hk := noCuts_ok hc f fn₀ c (by simpa using hp) hcb
          rw [Nat.zero_add] at hk
          rcases hk with hk | hk
          · rw [hk] at hx; simp at hx
          · exact ⟨f, named_mem hn (tabOf_mem hp hcb (loopsC_all hx) (skipOf_mem hk))⟩
      · cases hf
  · cases hf
theorem names_ok (h : C.cname = cnameOf nm nr (tabOf C.P nm nr l)) (hn : ((tabOf C.P nm nr l).map (·.1)).Nodup) : NamesOk C (inNames (tabOf C.P nm nr l)) := by
  rintro s c hc c' ⟨f, hS⟩
  rw [h] at hc
  unfold cnameOf at hc
  rw [hS] at hc
  simp only at hc
  cases hm : isSome' (mloopOf c') with
  | true => rw [hm] at hc; simp at hc
  | false =>
    rw [hm] at hc
    simp only [cond_false] at hc
    cases hw : whole c' with
    | false => rw [hw] at hc; simp at hc
    | true =>
      rw [hw] at hc
      simp only [cond_true, Option.some.injEq] at hc
      subst hc
      obtain ⟨fn, b, h1, h2, h3, h4⟩ := tabOf_from (named_in hS)
      exact cutC_ok hw fun x hx => ⟨f, named_mem hn (tabOf_mem h2 h3 (allC_closed h4 hm hx) h1)⟩
end

end
end Go.Ev
