/-
  EvLoop: loops over maps, in every order. No condition.
-/
import Derived.Test.YtmmaneofdfbllaaGreatEvDefs
import Derived.Test.YtmmaneofdfbllaaGreatEvFin
import Derived.Maps.RangeRun
set_option linter.unusedVariables false
set_option linter.unusedSimpArgs false
set_option linter.unusedSectionVars false
namespace Go.Ev
noncomputable section

def Tr.zip {α : Type} (f : α → α → α) : Tr α → Tr α → Tr α
  | .node v a0 a1 a2 a3 a4 a5 a6 a7, .node w b0 b1 b2 b3 b4 b5 b6 b7 => .node (match v, w with | some x, some y => some (f x y) | _, _ => none) (Tr.zip f a0 b0) (Tr.zip f a1 b1) (Tr.zip f a2 b2) (Tr.zip f a3 b3) (Tr.zip f a4 b4) (Tr.zip f a5 b5) (Tr.zip f a6 b6) (Tr.zip f a7 b7)
  | _, _ => .leaf

/-- The two tries bear the same places. -/
def Tr.like {α : Type} : Tr α → Tr α → Bool
  | .leaf, .leaf => true
  | .node v a0 a1 a2 a3 a4 a5 a6 a7, .node w b0 b1 b2 b3 b4 b5 b6 b7 => (match v, w with | some _, some _ | none, none => true | _, _ => false) && (Tr.like a0 b0 && Tr.like a1 b1 && Tr.like a2 b2 && Tr.like a3 b3 && Tr.like a4 b4 && Tr.like a5 b5 && Tr.like a6 b6 && Tr.like a7 b7)
  | _, _ => false
def joinAV (a b : AV) : AV := bif sameAV a b then a else .unk
def joinAVs : List AV → List AV → List AV
  | a :: l, b :: m => joinAV a b :: joinAVs l m
  | _, _ => []
def sameEs : List (AV × AV × Nat) → List (AV × AV × Nat) → Bool
  | [], [] => true
  | (a, b, n) :: l, (c, d, m) :: k => sameAV a c && sameAV b d && n.beq m && sameEs l k
  | _, _ => false
/-- An entry taken out. -/
def takeOut (a b : AV) : List (AV × AV) → Option (List (AV × AV))
  | [] => none
  | (c, d) :: l =>
    bif sameAV a c && sameAV b d then some l else
    match takeOut a b l with
    | some m => some ((c, d) :: m)
    | none => none
def permEs : List (AV × AV) → List (AV × AV) → Bool
  | [], [] => true
  | (a, b) :: l, m =>
    match takeOut a b m with
    | some m' => permEs l m'
    | none => false
  | _, _ => false
def bare (es : List (AV × AV × Nat)) : List (AV × AV) := es.map fun x => (x.1, x.2.1)
def joinU (l m : List (AV × AV)) (c d : Nat) : AObj := bif c.beq d && permEs l m then .umap l c else .dead
def sameNats : List Nat → List Nat → Bool
  | [], [] => true
  | a :: l, b :: m => a.beq b && sameNats l m
  | _, _ => false
/-- Code under names, and none. -/
def sameTok : Code → Code → Bool
  | .refuse s, .refuse t => s == t
  | .skip, .skip => true
  | _, _ => false
def stIdx : LoopState → Nat
  | .ready => 0 | .busy => 1 | .done => 2 | .exhausted => 3
def noPend : Option Code → Bool
  | none => true
  | some _ => false
def sameLoop (a b : ALoop) : Bool :=
  (stIdx a.state).beq (stIdx b.state) && (noPend a.pending && (noPend b.pending && (a.n.beq b.n && (Tr.like a.tmps b.tmps && (sameNats a.params b.params && (sameTok a.assign b.assign && (sameTok a.body b.body && a.defers.beq b.defers)))))))
def joinO : AObj → AObj → AObj
  | .cells a, .cells b => bif a.length.beq b.length then .cells (joinAVs a b) else .dead
  | .ro a, .ro b => bif sameAVs a b then .ro a else .dead
  | .map es c, .map fs d => bif sameEs es fs && c.beq d then .map es c else joinU (bare es) (bare fs) c d
  | .map es c, .umap fs d => joinU (bare es) fs c d
  | .umap es c, .map fs d => joinU es (bare fs) c d
  | .umap es c, .umap fs d => joinU es fs c d
  | .defd, .defd => .defd
  | .loop a, .loop b => bif sameLoop a b then .loop { a with tmps := Tr.zip joinAV a.tmps b.tmps } else .dead
  | _, _ => .dead
def joinH (h k : Heap) : Heap := { next := bif h.next.ble k.next then k.next else h.next, objs := Tr.zip joinO h.objs k.objs }
def joinE (e f : Env) : Env := { n := e.n, t := Tr.zip joinAV e.t f.t }
def joinX : Option (Env × Heap) → Option (Env × Heap) → Option (Env × Heap)
  | some (e, h), some (f, k) => bif e.n.beq f.n && Tr.like e.t f.t then some (joinE e f, joinH h k) else none
  | _, _ => none

/-- A loop over a map's entries, in its parts. -/
structure MLoop where
  id : Nat
  r1 : Nat
  nx : Oper
  it : Operand
  nl : List Oper
  cond : Operand
  id2 : Nat
  r2 : Nat
  en : Oper
  it2 : Operand
  ops : List Oper
  rest : Code
/-- The loop that has these parts. -/
def MLoop.code (L : MLoop) : Code :=
  .block L.id (.loop (.seq (.region L.r1 (L.nx :: L.nl).toArray false) (.seq (.cond L.cond .skip (.exit L.id)) (.block L.id2 (.seq (.region L.r2 (L.en :: L.ops).toArray false) L.rest)))))

/-- The body behind 'entry'. -/
def bodyOf : Code → Option (Nat × Oper × Operand × List Oper × Code)
  | .seq (.region r2 ops false) rest =>
    match ops.toList with
    | o :: l =>
      match o.op with
      | .entry x => some (r2, o, x, l, rest)
      | _ => none
    | [] => none
  | _ => none
def mloopOf : Code → Option MLoop
  | .block id (.loop (.seq (.region r1 nops false) (.seq (.cond c .skip (.exit id')) (.block id2 x)))) =>
    match nops.toList, bodyOf x with
    | a :: nl, some (r2, o, it2, l, rest) =>
      match a.op with
      | .next it false => bif id.beq id' then some ⟨id, r1, a, it, nl, c, id2, r2, o, it2, l, rest⟩ else none
      | _ => none
    | _, _ => none
  | _ => none

/-- A job's end, in one way. -/
def normal (ds : List Nat) : Option Out → Option (Env × Heap)
  | some (.code .normal ds' e h) => bif sameNats ds ds' then some (e, h) else none
  | _ => none
/-- 'next' has answered; the operations behind it. -/
def stepNext (L : MLoop) (rec : Job → Option Out) (ds : List Nat) (v : AV) (e : Env) (h : Heap) : Option (Env × Heap) :=
  match wanted (L.nx :: L.nl) e L.nx with
  | some true => normal ds (rec (.ops (L.nx :: L.nl) L.nl ds (e.put L.nx.dst v) h))
  | _ => none
def entryAt (st : Nat) : List (AV × AV × Nat) → Option (AV × AV)
  | [] => none
  | (k, v, n) :: l => bif n.beq st then some (k, v) else entryAt st l
/-- The body, on the entry with a stamp. -/
def stepBody (L : MLoop) (rec : Job → Option Out) (ds : List Nat) (ib m since st : Nat) (e : Env) (h : Heap) : Option (Env × Heap) :=
  match wanted (L.en :: L.ops) e L.en, opd e L.it2, h.get m with
  | some true, some (.ptr b 0), some (.map es clock) =>
    bif b.beq ib && clock.beq since then
      match entryAt st es with
      | some (k, v) =>
        match normal ds (rec (.ops (L.en :: L.ops) L.ops ds (e.put L.en.dst (.tup [k, v])) h)) with
        | some (e2, h2) =>
          match rec (.code none L.rest ds e2 h2) with
          | some (.code .normal ds' e3 h3) => bif sameNats ds ds' then some (e3, h3) else none
          | some (.code (.exit id) ds' e3 h3) => bif id.beq L.id2 && sameNats ds ds' then some (e3, h3) else none
          | _ => none
        | none => none
      | none => none
    else none
  | _, _, _ => none
def stampIn (n : Nat) : List Nat → Bool
  | [] => false
  | m :: l => n.beq m || stampIn n l
def unseen (seen : List Nat) : List (AV × AV × Nat) → List (AV × AV × Nat)
  | [] => []
  | (k, v, n) :: l => bif stampIn n seen then unseen seen l else (k, v, n) :: unseen seen l
/-- One of the entries that are left, then the others. -/
def each (one : AV → AV → Nat → Option (Env × Heap)) : List (AV × AV × Nat) → Option (Env × Heap)
  | [] => none
  | [(k, v, st)] => one k v st
  | (k, v, st) :: l => joinX (one k v st) (each one l)
def isBool (b : Bool) : Option AV → Bool
  | some (.bool c) => b == c
  | _ => false
/-- All orders of the entries that are left. -/
def allOrders (L : MLoop) (rec : Job → Option Out) (ds : List Nat) (ib m since : Nat) : Nat → List Nat → Env → Heap → Option (Env × Heap)
  | 0, _, _, _ => none
  | n + 1, seen, e, h =>
    match opd e L.it, h.get m with
    | some (.ptr b 0), some (.map es clock) =>
      bif b.beq ib && clock.beq since then
        match unseen seen es with
        | [] =>
          match stepNext L rec ds (.tup [.bool false]) e h with
          | some (e2, h2) => bif isBool false (opd e2 L.cond) then some (e2, h2) else none
          | none => none
        | l =>
          each (fun k v st =>
            match stepNext L rec ds (.tup [.bool true, k, v]) e h with
            | some (e2, h2) =>
              bif isBool true (opd e2 L.cond) then
                match stepBody L rec ds ib m since st e2 h2 with
                | some (e3, h3) => allOrders L rec ds ib m since n (st :: seen) e3 h3
                | none => none
              else none
            | none => none) l
      else none
    | _, _ => none
/-- Whatever a stamp is. -/
def overStamps (one : Nat → Option (Env × Heap)) : Nat → Option (Env × Heap)
  | 0 => none
  | n + 1 => bif n.beq 0 then one 0 else joinX (one n) (overStamps one n)
/-- The loop, run in every order. -/
def mloop (L : MLoop) : (Job → Option Out) → List Nat → Env → Heap → Option (Env × Heap) := fun rec ds e h =>
  match opd e L.it with
  | some (.ptr ib 0) =>
    match h.get ib with
    | some (.miter none) =>
      match stepNext L rec ds (.tup [.bool false]) e (h.set ib .dead) with
      | some (e2, h2) => bif isBool false (opd e2 L.cond) then some (e2, h2) else none
      | none => none
    | some (.miter (some (m, since))) =>
      match h.get m with
      | some (.umap [(k, v)] clock) => overStamps (fun st => allOrders L rec ds ib m since 6 [] e ((h.set ib .dead).set m (.map [(k, v, st)] clock))) clock
      | _ => allOrders L rec ds ib m since 6 [] e (h.set ib .dead)
    | _ => none
  | _ => none

end
end Go.Ev
namespace Go.Ev

theorem Tr.zip_getP {α : Type} (f : α → α → α) : ∀ (a b : Tr α) (p : Pt), (Tr.zip f a b).getP p = match a.getP p, b.getP p with | some x, some y => some (f x y) | _, _ => none
  | .leaf, b, p => by simp only [Tr.zip, Tr.getP_leaf]
  | .node v a0 a1 a2 a3 a4 a5 a6 a7, .leaf, p => by
    simp only [Tr.zip, Tr.getP_leaf]
    cases (Tr.node v a0 a1 a2 a3 a4 a5 a6 a7).getP p <;> rfl
  | .node v a0 a1 a2 a3 a4 a5 a6 a7, .node w b0 b1 b2 b3 b4 b5 b6 b7, .o => by cases v <;> cases w <;> rfl
  | .node v a0 a1 a2 a3 a4 a5 a6 a7, .node w b0 b1 b2 b3 b4 b5 b6 b7, .w0 p => Tr.zip_getP f a0 b0 p
  | .node v a0 a1 a2 a3 a4 a5 a6 a7, .node w b0 b1 b2 b3 b4 b5 b6 b7, .w1 p => Tr.zip_getP f a1 b1 p
  | .node v a0 a1 a2 a3 a4 a5 a6 a7, .node w b0 b1 b2 b3 b4 b5 b6 b7, .w2 p => Tr.zip_getP f a2 b2 p
  | .node v a0 a1 a2 a3 a4 a5 a6 a7, .node w b0 b1 b2 b3 b4 b5 b6 b7, .w3 p => Tr.zip_getP f a3 b3 p
  | .node v a0 a1 a2 a3 a4 a5 a6 a7, .node w b0 b1 b2 b3 b4 b5 b6 b7, .w4 p => Tr.zip_getP f a4 b4 p
  | .node v a0 a1 a2 a3 a4 a5 a6 a7, .node w b0 b1 b2 b3 b4 b5 b6 b7, .w5 p => Tr.zip_getP f a5 b5 p
  | .node v a0 a1 a2 a3 a4 a5 a6 a7, .node w b0 b1 b2 b3 b4 b5 b6 b7, .w6 p => Tr.zip_getP f a6 b6 p
  | .node v a0 a1 a2 a3 a4 a5 a6 a7, .node w b0 b1 b2 b3 b4 b5 b6 b7, .w7 p => Tr.zip_getP f a7 b7 p
theorem Tr.zip_get {α : Type} (f : α → α → α) (a b : Tr α) (n : Nat) : (Tr.zip f a b).get n = match a.get n, b.get n with | some x, some y => some (f x y) | _, _ => none := Tr.zip_getP f a b (path n)
theorem Tr.like_getP {α : Type} : ∀ (a b : Tr α) (p : Pt), Tr.like a b = true → (a.getP p).isSome = (b.getP p).isSome
  | .leaf, .leaf, p, _ => rfl
  | .leaf, .node _ _ _ _ _ _ _ _ _, _, h => by simp [Tr.like] at h
  | .node _ _ _ _ _ _ _ _ _, .leaf, _, h => by simp [Tr.like] at h
  | .node v a0 a1 a2 a3 a4 a5 a6 a7, .node w b0 b1 b2 b3 b4 b5 b6 b7, .o, h => by
    simp only [Tr.like, Bool.and_eq_true] at h
    simp only [Tr.getP_o]
    cases v <;> cases w <;> simp_all
  | .node v a0 a1 a2 a3 a4 a5 a6 a7, .node w b0 b1 b2 b3 b4 b5 b6 b7, .w0 p, h => by
    simp only [Tr.like, Bool.and_eq_true] at h
    exact Tr.like_getP a0 b0 p h.2.1.1.1.1.1.1.1
  | .node v a0 a1 a2 a3 a4 a5 a6 a7, .node w b0 b1 b2 b3 b4 b5 b6 b7, .w1 p, h => by
    simp only [Tr.like, Bool.and_eq_true] at h
    exact Tr.like_getP a1 b1 p h.2.1.1.1.1.1.1.2
  | .node v a0 a1 a2 a3 a4 a5 a6 a7, .node w b0 b1 b2 b3 b4 b5 b6 b7, .w2 p, h => by
    simp only [Tr.like, Bool.and_eq_true] at h
    exact Tr.like_getP a2 b2 p h.2.1.1.1.1.1.2
  | .node v a0 a1 a2 a3 a4 a5 a6 a7, .node w b0 b1 b2 b3 b4 b5 b6 b7, .w3 p, h => by
    simp only [Tr.like, Bool.and_eq_true] at h
    exact Tr.like_getP a3 b3 p h.2.1.1.1.1.2
  | .node v a0 a1 a2 a3 a4 a5 a6 a7, .node w b0 b1 b2 b3 b4 b5 b6 b7, .w4 p, h => by
    simp only [Tr.like, Bool.and_eq_true] at h
    exact Tr.like_getP a4 b4 p h.2.1.1.1.2
  | .node v a0 a1 a2 a3 a4 a5 a6 a7, .node w b0 b1 b2 b3 b4 b5 b6 b7, .w5 p, h => by
    simp only [Tr.like, Bool.and_eq_true] at h
    exact Tr.like_getP a5 b5 p h.2.1.1.2
  | .node v a0 a1 a2 a3 a4 a5 a6 a7, .node w b0 b1 b2 b3 b4 b5 b6 b7, .w6 p, h => by
    simp only [Tr.like, Bool.and_eq_true] at h
    exact Tr.like_getP a6 b6 p h.2.1.2
  | .node v a0 a1 a2 a3 a4 a5 a6 a7, .node w b0 b1 b2 b3 b4 b5 b6 b7, .w7 p, h => by
    simp only [Tr.like, Bool.and_eq_true] at h
    exact Tr.like_getP a7 b7 p h.2.2
theorem Tr.like_get {α : Type} (a b : Tr α) (n : Nat) (h : Tr.like a b = true) : (a.get n).isSome = (b.get n).isSome := Tr.like_getP a b (path n) h

section
variable {i : Emb}
theorem joinAV_l {a b : AV} {x : Value} (h : VRel i a x) : VRel i (joinAV a b) x := by
  unfold joinAV
  cases sameAV a b with
  | true => exact h
  | false => simp only [cond_false, VRel]
theorem joinAV_r {a b : AV} {x : Value} (h : VRel i b x) : VRel i (joinAV a b) x := by
  unfold joinAV
  cases hs : sameAV a b with
  | true => rw [sameAV_eq a b hs]; exact h
  | false => simp only [cond_false, VRel]
theorem joinAVs_length : ∀ {l m : List AV}, l.length = m.length → (joinAVs l m).length = l.length
  | [], [], _ => rfl
  | _ :: l, _ :: m, h => by simp only [joinAVs, List.length_cons, joinAVs_length (l := l) (m := m) (by simpa using h)]
  | [], _ :: _, h => by simp at h
  | _ :: _, [], h => by simp at h
theorem joinAVs_l : ∀ {l m : List AV} {xs : List Value}, l.length = m.length → VRels i l xs → VRels i (joinAVs l m) xs
  | [], [], xs, _, h => h
  | a :: l, b :: m, x :: xs, hl, h => by
    simp only [VRels] at h
    simp only [joinAVs, VRels]
    exact ⟨joinAV_l h.1, joinAVs_l (by simpa using hl) h.2⟩
  | _ :: _, _ :: _, [], _, h => by simp [VRels] at h
  | [], _ :: _, _, h, _ => by simp at h
  | _ :: _, [], _, h, _ => by simp at h
theorem joinAVs_r : ∀ {l m : List AV} {xs : List Value}, l.length = m.length → VRels i m xs → VRels i (joinAVs l m) xs
  | [], [], xs, _, h => h
  | a :: l, b :: m, x :: xs, hl, h => by
    simp only [VRels] at h
    simp only [joinAVs, VRels]
    exact ⟨joinAV_r h.1, joinAVs_r (by simpa using hl) h.2⟩
  | _ :: _, _ :: _, [], _, h => by simp [VRels] at h
  | [], _ :: _, _, h, _ => by simp at h
  | _ :: _, [], _, h, _ => by simp at h

theorem sameEs_eq : ∀ {l m : List (AV × AV × Nat)}, sameEs l m = true → l = m
  | [], [], _ => rfl
  | (a, b, n) :: l, (c, d, m) :: k, h => by
    simp only [sameEs, Bool.and_eq_true, beq_nat, decide_eq_true_eq] at h
    obtain ⟨⟨⟨h1, h2⟩, h3⟩, h4⟩ := h
    rw [sameAV_eq _ _ h1, sameAV_eq _ _ h2, h3, sameEs_eq h4]
  | [], _ :: _, h => by simp [sameEs] at h
  | (_, _, _) :: _, [], h => by simp [sameEs] at h
theorem takeOut_perm {a b : AV} : ∀ {l m : List (AV × AV)}, takeOut a b l = some m → l.Perm ((a, b) :: m)
  | [], m, h => by simp [takeOut] at h
  | (c, d) :: l, m, h => by
    simp only [takeOut] at h
    cases hs : (sameAV a c && sameAV b d) with
    | true =>
      rw [hs, cond_true] at h
      simp only [Option.some.injEq] at h; subst h
      simp only [Bool.and_eq_true] at hs
      rw [sameAV_eq _ _ hs.1, sameAV_eq _ _ hs.2]
    | false =>
      rw [hs, cond_false] at h
      split at h
      · rename_i m' hm
        simp only [Option.some.injEq] at h; subst h
        exact ((takeOut_perm hm).cons _).trans (List.Perm.swap _ _ _)
      · cases h
theorem permEs_perm : ∀ {l m : List (AV × AV)}, permEs l m = true → m.Perm l
  | [], [], _ => List.Perm.refl _
  | [], _ :: _, h => by simp [permEs] at h
  | (a, b) :: l, m, h => by
    simp only [permEs] at h
    split at h
    · rename_i m' hm
      exact (takeOut_perm hm).trans ((permEs_perm h).cons _)
    · cases h

variable {S : String → Code → Prop} {tot : Nat} {o : Option Obj}
theorem umap_of_map {es : List (AV × AV × Nat)} {c : Nat} (h : ORel S i tot (.map es c) o) : ORel S i tot (.umap (bare es) c) o := by
  obtain ⟨ents, h1, h2, h3, h4, h5⟩ := h
  exact ⟨ents, bare es, h1, List.Perm.refl _, h2, h4, h5⟩
theorem umap_perm {l m : List (AV × AV)} {c : Nat} (hp : m.Perm l) (h : ORel S i tot (.umap m c) o) : ORel S i tot (.umap l c) o := by
  obtain ⟨ents, z, h1, h2, h3, h4, h5⟩ := h
  exact ⟨ents, z, h1, h2.trans hp, h3, keysApart_perm hp h4, h5⟩
theorem joinU_l {l m : List (AV × AV)} {c d : Nat} (h : ORel S i tot (.umap l c) o) : ORel S i tot (joinU l m c d) o := by
  unfold joinU; cases (c.beq d && permEs l m) with
  | true => exact h
  | false => trivial
theorem joinU_r {l m : List (AV × AV)} {c d : Nat} (h : ORel S i tot (.umap m d) o) : ORel S i tot (joinU l m c d) o := by
  unfold joinU; cases hb : (c.beq d && permEs l m) with
  | true =>
    simp only [Bool.and_eq_true, beq_nat, decide_eq_true_eq] at hb
    obtain ⟨rfl, hp⟩ := hb
    exact umap_perm (permEs_perm hp) h
  | false => trivial

theorem joinE_l {e f : Env} {a : Array Value} (hn : e.n = f.n) (hl : Tr.like e.t f.t = true) (g : ERel i e a) : ERel i (joinE e f) a := by
  refine ⟨g.1, fun t => ?_⟩
  have := g.2 t
  have hs := Tr.like_get e.t f.t t hl
  simp only [Env.get, joinE, Tr.zip_get] at this ⊢
  cases he : e.t.get t with
  | none => rw [he] at this; exact this
  | some x =>
    rw [he] at this hs
    cases hf : f.t.get t with
    | none => rw [hf] at hs; simp at hs
    | some y => exact joinAV_l this
theorem joinE_r {e f : Env} {a : Array Value} (hn : e.n = f.n) (hl : Tr.like e.t f.t = true) (g : ERel i f a) : ERel i (joinE e f) a := by
  refine ⟨by rw [g.1]; exact hn.symm, fun t => ?_⟩
  have := g.2 t
  have hs := Tr.like_get e.t f.t t hl
  simp only [Env.get, joinE, Tr.zip_get] at this ⊢
  cases hf : f.t.get t with
  | none =>
    rw [hf] at this hs
    cases he : e.t.get t with
    | none => exact this
    | some x => rw [he] at hs; simp at hs
  | some y =>
    rw [hf] at this hs
    cases he : e.t.get t with
    | none => rw [he] at hs; simp at hs
    | some x => exact joinAV_r this
theorem sameTok_eq {a b : Code} (h : sameTok a b = true) : a = b := by
  unfold sameTok at h
  split at h
  · rw [beq_iff_eq] at h; rw [h]
  · rfl
  · cases h
theorem sameNats_eq' : ∀ {l m : List Nat}, sameNats l m = true → l = m
  | [], [], _ => rfl
  | a :: l, b :: m, h => by
    simp only [sameNats, Bool.and_eq_true, beq_nat, decide_eq_true_eq] at h
    rw [h.1, sameNats_eq' h.2]
  | [], _ :: _, h => by simp [sameNats] at h
  | _ :: _, [], h => by simp [sameNats] at h
theorem stIdx_eq {a b : LoopState} (h : stIdx a = stIdx b) : a = b := by cases a <;> cases b <;> simp [stIdx] at h <;> rfl
theorem noPend_eq {a : Option Code} (h : noPend a = true) : a = none := by cases a <;> simp [noPend] at h; rfl
theorem sameLoop_ok {a b : ALoop} (h : sameLoop a b = true) : a.state = b.state ∧ a.pending = none ∧ b.pending = none ∧ a.n = b.n ∧ Tr.like a.tmps b.tmps = true ∧ a.params = b.params ∧ a.assign = b.assign ∧ a.body = b.body ∧ a.defers = b.defers := by
  simp only [sameLoop, Bool.and_eq_true, beq_nat, decide_eq_true_eq] at h
  obtain ⟨h1, h2, h3, h4, h5, h6, h7, h8, h9⟩ := h
  exact ⟨stIdx_eq h1, noPend_eq h2, noPend_eq h3, h4, h5, sameNats_eq' h6, sameTok_eq h7, sameTok_eq h8, h9⟩
theorem joinO_l {a b : AObj} (h : ORel S i tot a o) : ORel S i tot (joinO a b) o := by
  cases a <;> cases b <;> simp only [joinO] <;> try (exact trivial)
  case cells.cells a b =>
    cases hb : a.length.beq b.length with
    | false => trivial
    | true =>
      rw [beq_nat, decide_eq_true_eq] at hb
      obtain ⟨arr, el, lo, hi, h1, h2, h3, h4, h5⟩ := h
      have hl := joinAVs_length hb
      exact ⟨arr, el, lo, hi, h1, h2, by rw [hl]; exact h3, by rw [hl]; exact joinAVs_l hb h4, h5⟩
  case ro.ro a b => cases sameAVs a b with
    | true => exact h
    | false => trivial
  case map.map es c fs d =>
    cases hb : (sameEs es fs && c.beq d) with
    | true => exact h
    | false => exact joinU_l (umap_of_map h)
  case map.umap es c fs d => exact joinU_l (umap_of_map h)
  case umap.map es c fs d => exact joinU_l h
  case umap.umap es c fs d => exact joinU_l h
  case defd.defd => exact h
  case loop.loop a b =>
    cases hb : sameLoop a b with
    | false => trivial
    | true =>
      obtain ⟨g1, g2, g3, g4, g5, g6, g7, g8, g9⟩ := sameLoop_ok hb
      obtain ⟨R, h1, h2, h3, h4, h5, h6, h7, c, hc, h8⟩ := h
      exact ⟨R, h1, h2, h3, joinE_l (e := ⟨a.n, a.tmps⟩) (f := ⟨b.n, b.tmps⟩) g4 g5 h4, h5, h6, h7, c, hc, h8⟩
theorem joinO_r {a b : AObj} (h : ORel S i tot b o) : ORel S i tot (joinO a b) o := by
  cases a <;> cases b <;> simp only [joinO] <;> try (exact trivial)
  case cells.cells a b =>
    cases hb : a.length.beq b.length with
    | false => trivial
    | true =>
      rw [beq_nat, decide_eq_true_eq] at hb
      obtain ⟨arr, el, lo, hi, h1, h2, h3, h4, h5⟩ := h
      have hl := joinAVs_length hb
      exact ⟨arr, el, lo, hi, h1, h2, by rw [hl, hb]; exact h3, by rw [hl, hb]; exact joinAVs_r hb h4, h5⟩
  case ro.ro a b => cases hb : sameAVs a b with
    | true => rw [sameAVs_eq _ _ hb]; exact h
    | false => trivial
  case map.map es c fs d =>
    cases hb : (sameEs es fs && c.beq d) with
    | true =>
      simp only [Bool.and_eq_true, beq_nat, decide_eq_true_eq] at hb
      rw [sameEs_eq hb.1, hb.2]; exact h
    | false => exact joinU_r (umap_of_map h)
  case map.umap es c fs d => exact joinU_r h
  case umap.map es c fs d => exact joinU_r (umap_of_map h)
  case umap.umap es c fs d => exact joinU_r h
  case defd.defd => exact h
  case loop.loop a b =>
    cases hb : sameLoop a b with
    | false => trivial
    | true =>
      obtain ⟨g1, g2, g3, g4, g5, g6, g7, g8, g9⟩ := sameLoop_ok hb
      obtain ⟨R, h1, h2, h3, h4, h5, h6, h7, c, hc, h8⟩ := h
      exact ⟨R, h1, by rw [h2]; exact g1.symm, by rw [h3, g3]; exact g2.symm, joinE_r (e := ⟨a.n, a.tmps⟩) (f := ⟨b.n, b.tmps⟩) g4 g5 h4, by rw [h5]; exact g6.symm, by rw [show ({ a with tmps := Tr.zip joinAV a.tmps b.tmps } : ALoop).assign = b.assign from g7]; exact h6,
        by rw [show ({ a with tmps := Tr.zip joinAV a.tmps b.tmps } : ALoop).body = b.body from g8]; exact h7, c, by rw [show ({ a with tmps := Tr.zip joinAV a.tmps b.tmps } : ALoop).defers = b.defers from g9]; exact hc, h8⟩

theorem joinU_own {l m : List (AV × AV)} {c d : Nat} : (joinU l m c d).own = true ∨ joinU l m c d = .dead := by
  unfold joinU; cases (c.beq d && permEs l m) <;> simp [AObj.own]
theorem joinO_own {a b : AObj} (h : (joinO a b).own = true) : a.own = true ∧ b.own = true := by
  cases a <;> cases b <;> simp only [joinO] at h <;> try (simp [AObj.own] at h; done)
  case ro.ro a b => exfalso; cases hb : sameAVs a b <;> rw [hb] at h <;> simp [AObj.own] at h
  all_goals exact ⟨rfl, rfl⟩
theorem joinO_ro {a b : AObj} {cs : List AV} (h : joinO a b = .ro cs) : a = .ro cs ∧ b = .ro cs := by
  cases a <;> cases b <;> simp only [joinO] at h <;> try (cases h; done)
  case cells.cells a b => cases hb : a.length.beq b.length <;> rw [hb] at h <;> cases h
  case ro.ro a b =>
    cases hb : sameAVs a b <;> rw [hb] at h <;> cases h
    exact ⟨rfl, by rw [sameAVs_eq _ _ hb]⟩
  case map.map es c fs d =>
    cases hb : (sameEs es fs && c.beq d) <;> rw [hb] at h
    · simp only [cond_false, joinU] at h; cases hx : (c.beq d && permEs (bare es) (bare fs)) <;> rw [hx] at h <;> cases h
    · cases h
  case map.umap es c fs d => simp only [joinU] at h; cases hx : (c.beq d && permEs (bare es) fs) <;> rw [hx] at h <;> cases h
  case umap.map es c fs d => simp only [joinU] at h; cases hx : (c.beq d && permEs es (bare fs)) <;> rw [hx] at h <;> cases h
  case umap.umap es c fs d => simp only [joinU] at h; cases hx : (c.beq d && permEs es fs) <;> rw [hx] at h <;> cases h
  case loop.loop a b => cases hb : sameLoop a b <;> rw [hb] at h <;> cases h
theorem dead_live {a : AObj} (h : a.live = false) : a = .dead := by cases a <;> simp [AObj.live] at h; rfl
theorem joinO_live {a b : AObj} (h : (joinO a b).live = true) : a.live = true ∧ b.live = true := by
  constructor
  · cases ha : a.live with
    | true => rfl
    | false => rw [dead_live ha] at h; cases b <;> simp [joinO, AObj.live] at h
  · cases hb : b.live with
    | true => rfl
    | false => rw [dead_live hb] at h; cases a <;> simp [joinO, AObj.live] at h

theorem joinH_get (h k : Heap) (b : Nat) : (joinH h k).get b = match h.get b, k.get b with | some x, some y => some (joinO x y) | _, _ => none := by
  have := Tr.zip_get joinO h.objs k.objs b
  show (Tr.zip joinO h.objs k.objs).get b = _
  rw [this]
  unfold Heap.get
  cases h.objs.get b <;> cases k.objs.get b <;> rfl
theorem joinH_next (h k : Heap) : h.next ≤ (joinH h k).next ∧ k.next ≤ (joinH h k).next := by
  simp only [joinH, cond_ble]; split <;> omega

variable {F : Fr} {w : World}
theorem Rel.weak {h k : Heap} (R : Rel S F i h.get h.next w) (hn : h.next ≤ k.next)
    (hw : ∀ b o, k.get b = some o → ∃ o₁, h.get b = some o₁ ∧ (o.own = true → o₁.own = true) ∧ (∀ cs, o = .ro cs → o₁ = .ro cs) ∧ (o.live = true → o₁.live = true) ∧ ∀ t x, ORel S i t o₁ x → ORel S i t o x) :
    Rel S F i k.get k.next w := by
  refine { objs := ?_, inj := ?_, fresh := ?_, keep := R.keep, apart := ?_, roFr := ?_, os := R.os, output := R.output, tape := R.tape }
  · intro b o hb hl
    obtain ⟨o₁, h1, _, _, h4, h5⟩ := hw b o hb
    obtain ⟨c, hc, hr⟩ := R.objs b o₁ h1 (h4 hl)
    exact ⟨c, hc, h5 _ _ hr⟩
  · intro b b' o o' c c' hb hb' ho ho' hc hc' he
    obtain ⟨o₁, h1, h2, _⟩ := hw b o hb
    obtain ⟨o₂, g1, g2, _⟩ := hw b' o' hb'
    exact R.inj b b' o₁ o₂ c c' h1 g1 (h2 ho) (g2 ho') hc hc' he
  · intro b hb
    have := R.fresh b (by omega)
    refine ⟨this.1, ?_⟩
    cases hx : k.get b with
    | none => rfl
    | some o => obtain ⟨o₁, h1, _⟩ := hw b o hx; rw [this.2] at h1; cases h1
  · intro b o c hb ho hc
    obtain ⟨o₁, h1, h2, _⟩ := hw b o hb
    exact R.apart b o₁ c h1 (h2 ho) hc
  · intro b cs c hb hc
    obtain ⟨o₁, h1, _, h3, _⟩ := hw b _ hb
    exact R.roFr b cs c (by rw [h1, h3 cs rfl]) hc
theorem Rel.joinL {h k : Heap} (R : Rel S F i h.get h.next w) : Rel S F i (joinH h k).get (joinH h k).next w := by
  refine R.weak (joinH_next h k).1 fun b o hb => ?_
  rw [joinH_get] at hb
  split at hb
  · rename_i x y hx hy
    simp only [Option.some.injEq] at hb; subst hb
    exact ⟨x, hx, fun h => (joinO_own h).1, fun cs h => (joinO_ro h).1, fun h => (joinO_live h).1, fun t z h => joinO_l h⟩
  · cases hb
theorem Rel.joinR {h k : Heap} (R : Rel S F i k.get k.next w) : Rel S F i (joinH h k).get (joinH h k).next w := by
  refine R.weak (joinH_next h k).2 fun b o hb => ?_
  rw [joinH_get] at hb
  split at hb
  · rename_i x y hx hy
    simp only [Option.some.injEq] at hb; subst hb
    exact ⟨y, hy, fun h => (joinO_own h).2, fun cs h => (joinO_ro h).2, fun h => (joinO_live h).2, fun t z h => joinO_r h⟩
  · cases hb

end
end Go.Ev
namespace Go.Ev
noncomputable section

/-- A frame with a block more. -/
def Fr.with (F : Fr) (c : Nat) (O : Obj) : Fr :=
  { F with
    blocks := fun k => if k = c then some O else F.blocks k
    roIn := by
      intro k hk
      show (if k = c then some O else F.blocks k).isSome = true
      split
      · rfl
      · exact F.roIn k hk }

section
variable {S : String → Code → Prop} {F : Fr} {i : Emb} {G : Nat → Option AObj} {n : Nat} {w : World}

theorem Rel.hide (R : Rel S F i G n w) {b : Nat} {o : AObj} {c : Nat × Nat} {O : Obj} (hb : G b = some o) (ho : o.own = true) (hc : i b = some c) (hO : w.heap[c.1]? = some O) :
    Rel S (F.with c.1 O) i (updG G b .dead) n w ∧ F.blocks c.1 = none := by
  have R' := R.kill hb
  refine ⟨{ objs := R'.objs, inj := R'.inj, fresh := R'.fresh, keep := ?_, apart := ?_, roFr := R'.roFr, os := R'.os, output := R'.output, tape := R'.tape }, R.apart b o c hb ho hc⟩
  · intro k x hk
    have hk' : (if k = c.1 then some O else F.blocks k) = some x := hk
    split at hk'
    · rename_i e; subst e; rw [hO]; exact hk'
    · exact R'.keep k x hk'
  · intro d x e hd hx he
    show (if e.1 = c.1 then some O else F.blocks e.1) = none
    have hne : e.1 ≠ c.1 := by
      intro heq
      unfold updG at hd
      split at hd
      · simp only [Option.some.injEq] at hd; subst hd; simp [AObj.own] at hx
      · rename_i hdb
        exact hdb (R.inj d b x o e c hd hb hx ho he hc heq)
    rw [if_neg hne]
    exact R'.apart d x e hd hx he

theorem Rel.reframe {c : Nat} {O O' : Obj} (R : Rel S (F.with c O) i G n w) (hF : F.blocks c = none) {w' : World} (h1 : w'.heap[c]? = some O') (h0 : ∀ k, k ≠ c → w'.heap[k]? = w.heap[k]?)
    (h2 : w'.os = w.os) (h3 : w'.output = w.output) (h4 : w'.tape = w.tape) : Rel S (F.with c O') i G n w' := by
  have atC : ∀ k, (F.with c O).blocks k = if k = c then some O else F.blocks k := fun _ => rfl
  have atC' : ∀ k, (F.with c O').blocks k = if k = c then some O' else F.blocks k := fun _ => rfl
  have away : ∀ b o e, G b = some o → o.live = true → i b = some e → e.1 ≠ c := by
    intro b o e hb hl he heq
    cases hown : o.own with
    | true =>
      have := R.apart b o e hb hown he
      rw [atC, if_pos heq] at this; cases this
    | false =>
      cases o <;> simp [AObj.own, AObj.live] at hown hl
      have := R.roFr b _ e hb he
      have := F.roIn _ this
      rw [heq, hF] at this; cases this
  refine { objs := ?_, inj := R.inj, fresh := R.fresh, keep := ?_, apart := ?_, roFr := R.roFr, os := by rw [h2]; exact R.os, output := by rw [h3]; exact R.output, tape := by rw [h4]; exact R.tape }
  · intro b o hb hl
    obtain ⟨e, he, hr⟩ := R.objs b o hb hl
    exact ⟨e, he, by rw [h0 _ (away b o e hb hl he)]; exact hr⟩
  · intro k x hk
    rw [atC'] at hk
    split at hk
    · rename_i e; subst e; rw [h1]; exact hk
    · rename_i hne
      rw [h0 k hne]
      exact R.keep k x (by rw [atC, if_neg hne]; exact hk)
  · intro b o e hb ho he
    have h5 := R.apart b o e hb ho he
    have hne := away b o e hb (AObj.own_live ho) he
    rw [atC, if_neg hne] at h5
    rw [atC', if_neg hne]; exact h5

theorem Rel.bare {c : Nat} {O : Obj} (R : Rel S (F.with c O) i G n w) (hF : F.blocks c = none) : Rel S F i G n w := by
  have atC : ∀ k, (F.with c O).blocks k = if k = c then some O else F.blocks k := fun _ => rfl
  refine { objs := R.objs, inj := R.inj, fresh := R.fresh, keep := ?_, apart := ?_, roFr := R.roFr, os := R.os, output := R.output, tape := R.tape }
  · intro k x hk
    refine R.keep k x ?_
    rw [atC, if_neg]
    · exact hk
    · rintro rfl; rw [hF] at hk; cases hk
  · intro b o e hb ho he
    have h5 := R.apart b o e hb ho he
    rw [atC] at h5
    split at h5
    · cases h5
    · exact h5
theorem Rel.kept {c : Nat} {O : Obj} (R : Rel S (F.with c O) i G n w) : w.heap[c]? = some O := R.keep c O (by simp [Fr.with])

/-! ### Lists of entries -/

theorem stampIn_iff {n : Nat} : ∀ {l : List Nat}, stampIn n l = true ↔ n ∈ l
  | [] => by simp [stampIn]
  | m :: l => by simp only [stampIn, Bool.or_eq_true, beq_nat, decide_eq_true_eq, List.mem_cons, stampIn_iff (l := l)]
theorem unseen_eq (seen : List Nat) : ∀ (es : List (AV × AV × Nat)), unseen seen es = es.filter fun x => !stampIn x.2.2 seen
  | [] => rfl
  | (k, v, n) :: l => by
    simp only [unseen, List.filter_cons]
    cases h : stampIn n seen with
    | true => simp [unseen_eq seen l]
    | false => simp [unseen_eq seen l]
theorem sameNats_eq : ∀ {l m : List Nat}, sameNats l m = true → l = m
  | [], [], _ => rfl
  | a :: l, b :: m, h => by
    simp only [sameNats, Bool.and_eq_true, beq_nat, decide_eq_true_eq] at h
    rw [h.1, sameNats_eq h.2]
  | [], _ :: _, h => by simp [sameNats] at h
  | _ :: _, [], h => by simp [sameNats] at h

/-- An end of one order is an end of the join. -/
theorem joinX_ok {x y : Option (Env × Heap)} {e : Env} {h : Heap} (hx : joinX x y = some (e, h)) : ∃ e1 h1 e2 h2, x = some (e1, h1) ∧ y = some (e2, h2) ∧
    (∀ {S : String → Code → Prop} {F : Fr} {i : Emb} {w : World} {t : Array Value}, Rel S F i h1.get h1.next w → ERel i e1 t → Rel S F i h.get h.next w ∧ ERel i e t) ∧
    ∀ {S : String → Code → Prop} {F : Fr} {i : Emb} {w : World} {t : Array Value}, Rel S F i h2.get h2.next w → ERel i e2 t → Rel S F i h.get h.next w ∧ ERel i e t := by
  unfold joinX at hx
  split at hx
  · rename_i e1 h1 e2 h2
    cases hb : (e1.n.beq e2.n && Tr.like e1.t e2.t) with
    | false => rw [hb] at hx; simp at hx
    | true =>
      rw [hb] at hx
      simp only [cond_true, Option.some.injEq, Prod.mk.injEq] at hx
      obtain ⟨rfl, rfl⟩ := hx
      simp only [Bool.and_eq_true, beq_nat, decide_eq_true_eq] at hb
      exact ⟨e1, h1, e2, h2, rfl, rfl, fun R g => ⟨R.joinL, joinE_l hb.1 hb.2 g⟩, fun R g => ⟨R.joinR, joinE_r hb.1 hb.2 g⟩⟩
  · cases hx
theorem each_ok {one : AV → AV → Nat → Option (Env × Heap)} : ∀ {l : List (AV × AV × Nat)} {e : Env} {h : Heap}, each one l = some (e, h) → ∀ k v st, (k, v, st) ∈ l → ∃ e1 h1, one k v st = some (e1, h1) ∧
    ∀ {S : String → Code → Prop} {F : Fr} {i : Emb} {w : World} {t : Array Value}, Rel S F i h1.get h1.next w → ERel i e1 t → Rel S F i h.get h.next w ∧ ERel i e t
  | [], e, h, hx, _, _, _, _ => by simp [each] at hx
  | [(k0, v0, s0)], e, h, hx, k, v, st, hm => by
    simp only [List.mem_singleton, Prod.mk.injEq] at hm
    obtain ⟨rfl, rfl, rfl⟩ := hm
    exact ⟨e, h, hx, fun R g => ⟨R, g⟩⟩
  | (k0, v0, s0) :: x :: l, e, h, hx, k, v, st, hm => by
    simp only [each] at hx
    obtain ⟨e1, h1, e2, h2, q1, q2, q3, q4⟩ := joinX_ok hx
    rcases List.mem_cons.1 hm with hm | hm
    · simp only [Prod.mk.injEq] at hm
      obtain ⟨rfl, rfl, rfl⟩ := hm
      exact ⟨e1, h1, q1, q3⟩
    · obtain ⟨e3, h3, g1, g2⟩ := each_ok q2 k v st hm
      exact ⟨e3, h3, g1, fun R g => let ⟨a, b⟩ := g2 R g; q4 a b⟩

end
end
end Go.Ev
namespace Go.Ev

section
variable {C : Ctx} {S : String → Code → Prop} {rec : Job → Option Out}

theorem normal_ok {ds : List Nat} {o : Option Out} {e : Env} {h : Heap} (hn : normal ds o = some (e, h)) : o = some (.code .normal ds e h) := by
  unfold normal at hn
  split at hn
  · rename_i ds' e' h'
    cases hb : sameNats ds ds' with
    | false => rw [hb] at hn; simp at hn
    | true =>
      rw [hb] at hn
      simp only [cond_true, Option.some.injEq, Prod.mk.injEq] at hn
      obtain ⟨rfl, rfl⟩ := hn
      rw [sameNats_eq hb]
  · cases hn

theorem stepNext_ok (hrec : RecOk C S rec) {L : MLoop} (hnx : L.nx.op = .next L.it false) {ds : List Nat} {v : AV} {e e2 : Env} {h h2 : Heap} (hs : stepNext L rec ds v e h = some (e2, h2))
    {F : Fr} {i : Emb} {a : Act} {w w₁ : World} {x : Value} (hrun : (Instr.next (a.eval L.it) false L.nx.type).run C.P w = .ok x w₁) (gv : VRel i v x) (R : Rel S F i h.get h.next w₁) (gE : ERel i e a.tmps) (gD : DRel i ds a.defers)
    {Q : Exit → Act → World → Prop} (hQ : ∀ (a' : Act) (w' : World) (j : Emb), i.Le j → Rel S F j h2.get h2.next w' → ERel j e2 a'.tmps → DRel j ds a'.defers → Q .normal a' w') :
    (Code.region L.r1 (L.nx :: L.nl).toArray false).wpIn (fc none) 0 C.P Q a w := by
  unfold stepNext at hs
  split at hs
  · rename_i hw
    have hok := hrec _ _ (normal_ok hs)
    obtain ⟨_, hok⟩ := hok
    refine wpIn_region_lit ?_
    have hwr := wanted_ok gE hw
    simp only [wpListIn, hwr, if_true]
    refine value_ok (x := x) (w' := w₁) (fun c => by rw [hnx]; simp) ?_ ?_
    · simp only [execOp, hnx, Sem.run_bind, hrun, Result.andThen_ok, Sem.run_pure]
    · refine hok F i none (a.put L.nx.dst x) w₁ R (gE.put gv _) (by rw [put_defers]; exact gD) _ ?_
      rintro a' w' ⟨_, j, hj, R', E', D'⟩
      exact hQ a' w' j hj R' E' D'
  · cases hs

theorem entryAt_ok {st : Nat} : ∀ {es : List (AV × AV × Nat)} {k v : AV}, entryAt st es = some (k, v) → ∃ x : Nat, es[x]? = some (k, v, st)
  | [], _, _, h => by simp [entryAt] at h
  | (a, b, n) :: l, k, v, h => by
    simp only [entryAt, cond_beq] at h
    split at h
    · rename_i hn; subst hn
      simp only [Option.some.injEq, Prod.mk.injEq] at h
      obtain ⟨rfl, rfl⟩ := h
      exact ⟨0, by simp⟩
    · obtain ⟨x, hx⟩ := entryAt_ok h
      exact ⟨x + 1, by simpa using hx⟩

/-- An entry of a map, in the world. -/
theorem entry_rel {i : Emb} {es : List (AV × AV × Nat)} {ents : Array MapEntry} (hm : MRel i (plainEs es) ents.toList) (hb : ents.toList.map (·.born) = es.map (·.2.2)) {x : Nat} {k v : AV} {st : Nat} (hx : es[x]? = some (k, v, st)) :
    ∃ e0, ents.toList[x]? = some e0 ∧ e0.born = st ∧ VRel i k e0.key ∧ VRel i v e0.val := by
  have hp : (plainEs es)[x]? = some (k, v) := by simp [plainEs, hx]
  obtain ⟨e0, he, hk, hv⟩ := hm.get x hp
  refine ⟨e0, he, ?_, hk, hv⟩
  have h1 : (ents.toList.map (·.born))[x]? = some e0.born := by rw [List.getElem?_map, he]; rfl
  rw [hb, List.getElem?_map, hx] at h1
  simpa using h1.symm

theorem stepBody_ok (hrec : RecOk C S rec) {L : MLoop} {rest' : Code} (hen : L.en.op = .entry L.it2) (hCR : CR S L.rest rest') {ds : List Nat} {ib m since st : Nat} {e e3 : Env} {h h3 : Heap} (hs : stepBody L rec ds ib m since st e h = some (e3, h3))
    {F : Fr} {i : Emb} {a : Act} {w : World} {cI cm : Nat × Nat} {seen : Array Nat} (hib : i ib = some cI) (hm : i m = some cm)
    (R : Rel S (F.with cI.1 (.mapIter (some cm.1) since (seen.push st) since)) i h.get h.next w) (gE : ERel i e a.tmps) (gD : DRel i ds a.defers)
    {Q : Exit → Act → World → Prop} (hQ : ∀ (a' : Act) (w' : World) (j : Emb), i.Le j → Rel S (F.with cI.1 (.mapIter (some cm.1) since (seen.push st) since)) j h3.get h3.next w' → ERel j e3 a'.tmps → DRel j ds a'.defers → Q .normal a' w') :
    (Code.block L.id2 (.seq (.region L.r2 (L.en :: L.ops).toArray false) rest')).wpIn (fc none) 0 C.P Q a w := by
  unfold stepBody at hs
  split at hs
  · rename_i b es clock hw hit hget
    cases hb : (b.beq ib && clock.beq since) with
    | false => rw [hb] at hs; simp at hs
    | true =>
    rw [hb] at hs
    simp only [cond_true] at hs
    simp only [Bool.and_eq_true, beq_nat, decide_eq_true_eq] at hb
    obtain ⟨rfl, rfl⟩ := hb
    split at hs
    · rename_i k v hent
      split at hs
      · rename_i e2 h2 hnorm
        have hok := hrec _ _ (normal_ok hnorm)
        obtain ⟨_, hok⟩ := hok
        -- the entry
        obtain ⟨c', hc', ents, hwm, hmr, hbo, hap, hst⟩ := R.objs m _ hget rfl
        rw [hm] at hc'; cases hc'
        obtain ⟨x, hx⟩ := entryAt_ok hent
        obtain ⟨e0, he0, hborn, gk, gv⟩ := entry_rel hmr hbo hx
        have hr := R.kept
        have hit' := opd_ok gE hit
        simp only [VRel] at hit'
        obtain ⟨c2, hc2, hptr⟩ := hit'
        rw [hib] at hc2; cases hc2
        have hrun := run_entry_at (P := C.P) w cI.1 cm.1 clock seen ents clock e0 (by rw [hborn]; exact hr) hwm (List.mem_of_getElem? he0) hst.1
        have tail : ∀ {y : Ex} {ds' : List Nat}, rec (.code none L.rest ds e2 h2) = some (.code y ds' e3 h3) → ds' = ds → (y = .normal ∨ y = .exit L.id2) →
            (Code.block L.id2 (.seq (.region L.r2 (L.en :: L.ops).toArray false) rest')).wpIn (fc none) 0 C.P Q a w := by
          rintro y ds' hrest rfl hy
          have hco := hrec _ _ hrest
          refine wpIn_block (wpIn_seq (wpIn_region_lit ?_))
          have hwr := wanted_ok gE hw
          simp only [wpListIn, hwr, if_true]
          refine value_ok (x := .tuple #[e0.key, e0.val]) (w' := w) (fun c => by rw [hen]; simp) ?_ ?_
          · simp only [execOp, hen, hptr, Sem.run_bind, hrun, Result.andThen_ok, Sem.run_pure]
          · have gt : VRel i (.tup [k, v]) (.tuple #[e0.key, e0.val]) := by
              simp only [VRel]; exact ⟨[e0.key, e0.val], by simp only [VRels]; exact ⟨gk, gv, trivial⟩, rfl⟩
            refine hok _ i none (a.put L.en.dst _) w R (gE.put gt _) (by rw [put_defers]; exact gD) _ ?_
            rintro a1 w1 ⟨_, j, hj, R1, E1, D1⟩
            refine wpIn_mono (hco rest' _ j none a1 w1 hCR R1 E1 D1 rfl).1 ?_
            rintro x' a2 w2 ⟨rfl, k', hk', R2, E2, D2⟩
            have hq := hQ a2 w2 k' (hj.trans hk') R2 E2 D2
            rcases hy with rfl | rfl
            · exact hq
            · simp only [exitOf, Exit.inBlock, if_true]; exact hq
        split at hs
        · rename_i ds' e3' h3' hrest
          cases hd : sameNats ds ds' with
          | false => rw [hd] at hs; simp at hs
          | true =>
            rw [hd] at hs
            simp only [cond_true, Option.some.injEq, Prod.mk.injEq] at hs
            obtain ⟨rfl, rfl⟩ := hs
            exact tail hrest (sameNats_eq hd).symm (.inl rfl)
        · rename_i id ds' e3' h3' hrest
          cases hd : (id.beq L.id2 && sameNats ds ds') with
          | false => rw [hd] at hs; simp at hs
          | true =>
            rw [hd] at hs
            simp only [cond_true, Option.some.injEq, Prod.mk.injEq] at hs
            obtain ⟨rfl, rfl⟩ := hs
            simp only [Bool.and_eq_true, beq_nat, decide_eq_true_eq] at hd
            exact tail hrest (sameNats_eq hd.2).symm (.inr (by rw [hd.1]))
        · cases hs
      · cases hs
    · cases hs
  · cases hs

end
end Go.Ev
namespace Go.Ev
noncomputable section

section
variable {C : Ctx} {S : String → Code → Prop} {rec : Job → Option Out}

theorem isBool_eq {b : Bool} {x : Option AV} (h : isBool b x = true) : x = some (.bool b) := by
  unfold isBool at h
  split at h
  · rename_i c
    rw [beq_iff_eq] at h; rw [h]
  · cases h

/-- A round's code, with the true code of its rest. -/
def MLoop.round (L : MLoop) (rest' : Code) : Code :=
  .seq (.region L.r1 (L.nx :: L.nl).toArray false) (.seq (.cond L.cond .skip (.exit L.id)) (.block L.id2 (.seq (.region L.r2 (L.en :: L.ops).toArray false) rest')))

/-- The loop is over. -/
theorem over_ok (hrec : RecOk C S rec) {L : MLoop} {rest' : Code} (hnx : L.nx.op = .next L.it false) {ds : List Nat} {e e2 : Env} {h h2 : Heap} (hs : stepNext L rec ds (.tup [.bool false]) e h = some (e2, h2)) (hb : isBool false (opd e2 L.cond) = true)
    {F : Fr} {i : Emb} {a : Act} {w w₁ : World} (hrun : (Instr.next (a.eval L.it) false L.nx.type).run C.P w = .ok (.tuple #[.bool false]) w₁) (R : Rel S F i h.get h.next w₁) (gE : ERel i e a.tmps) (gD : DRel i ds a.defers)
    {K : Exit → Act → World → Prop} (hK : ∀ (a' : Act) (w' : World) (j : Emb), i.Le j → Rel S F j h2.get h2.next w' → ERel j e2 a'.tmps → DRel j ds a'.defers → K (.exit L.id) a' w') : LoopIn none C.P (L.round rest') K a w := by
  refine loopIn_of (wpIn_seq ?_)
  have gv : VRel i (.tup [.bool false]) (.tuple #[.bool false]) := by simp only [VRel]; exact ⟨[.bool false], by simp [VRels, VRel], rfl⟩
  refine stepNext_ok hrec hnx hs hrun gv R gE gD fun a' w' j hj R' E' D' => ?_
  refine wpIn_seq ?_
  have hc := opd_ok E' (isBool_eq hb)
  simp only [VRel] at hc
  refine wpIn_cond_false hc (wpIn_exit ?_)
  exact hK a' w' j hj R' E' D'

theorem allOrders_ok (hrec : RecOk C S rec) {L : MLoop} {rest' : Code} (hnx : L.nx.op = .next L.it false) (hen : L.en.op = .entry L.it2) (hCR : CR S L.rest rest') {ds : List Nat} {ib m since : Nat} :
    ∀ (n : Nat) (seen : List Nat) (e : Env) (h : Heap) (e' : Env) (h' : Heap), allOrders L rec ds ib m since n seen e h = some (e', h') →
      ∀ (F : Fr) (i : Emb) (a : Act) (w : World) (cI cm : Nat × Nat) (sn : Array Nat), i ib = some cI → i m = some cm → F.blocks cI.1 = none → Rel S (F.with cI.1 (.mapIter (some cm.1) since sn since)) i h.get h.next w →
        ERel i e a.tmps → DRel i ds a.defers → (∀ st, st ∈ seen ↔ st ∈ sn.toList) →
        ∀ (K : Exit → Act → World → Prop), (∀ (a' : Act) (w' : World) (j : Emb), i.Le j → Rel S F j h'.get h'.next w' → ERel j e' a'.tmps → DRel j ds a'.defers → K (.exit L.id) a' w') → LoopIn none C.P (L.round rest') K a w
  | 0, seen, e, h, e', h', hs => by simp [allOrders] at hs
  | n + 1, seen, e, h, e', h', hs => by
    intro F i a w cI cm sn hib hm hF R gE gD hsn K hK
    simp only [allOrders] at hs
    split at hs
    rotate_left
    · cases hs
    rename_i b es clock hit hget
    cases hb : (b.beq ib && clock.beq since) with
    | false => rw [hb] at hs; simp at hs
    | true =>
    rw [hb] at hs
    simp only [cond_true] at hs
    simp only [Bool.and_eq_true, beq_nat, decide_eq_true_eq] at hb
    obtain ⟨rfl, rfl⟩ := hb
    obtain ⟨c', hc', ents, hwm, hmr, hbo, hap, hst⟩ := R.objs m _ hget rfl
    rw [hm] at hc'; cases hc'
    have hit' := opd_ok gE hit
    simp only [VRel] at hit'
    obtain ⟨c2, hc2, hptr⟩ := hit'
    rw [hib] at hc2; cases hc2
    have hr := R.kept
    have hold : ∀ x ∈ ents.toList, x.born < clock := hst.2
    -- the entries that are left, there and here
    have left_iff : ∀ e0, e0 ∈ (leftOf ents sn).toList ↔ e0 ∈ ents.toList ∧ e0.born ∉ seen := by
      intro e0
      unfold leftOf
      simp only [Array.toList_filter, List.mem_filter, Bool.not_eq_true', Array.contains_eq_mem, decide_eq_false_iff_not, hsn, Array.mem_toList_iff]
    rcases run_next_at (P := C.P) w L.nx.type cI.1 cm.1 clock clock sn ents clock hr hwm hold (Nat.le_refl _) with ⟨hz, hrun⟩ | ⟨e0, he0, w1, hw1, hrun⟩
    · -- nothing is left
      have hnil : unseen seen es = [] := by
        rw [unseen_eq, List.filter_eq_nil_iff]
        rintro ⟨k, v, st⟩ hx
        obtain ⟨x, hx'⟩ := List.mem_iff_getElem?.1 hx
        obtain ⟨e1, h1, h2, _⟩ := entry_rel hmr hbo hx'
        have hnl : e1 ∉ (leftOf ents sn).toList := by
          have : (leftOf ents sn).toList = [] := List.eq_nil_of_length_eq_zero (by simpa using hz)
          rw [this]; simp
        rw [left_iff] at hnl
        have hin : e1.born ∈ seen := by
          by_cases hh : e1.born ∈ seen
          · exact hh
          · exact absurd ⟨List.mem_of_getElem? h1, hh⟩ hnl
        rw [h2] at hin
        simp [stampIn_iff.2 hin]
      rw [hnil] at hs
      simp only at hs
      split at hs
      · rename_i e2 h2 hnext
        cases hbb : isBool false (opd e2 L.cond) with
        | false => rw [hbb] at hs; simp at hs
        | true =>
          rw [hbb] at hs
          simp only [cond_true, Option.some.injEq, Prod.mk.injEq] at hs
          obtain ⟨rfl, rfl⟩ := hs
          refine over_ok hrec hnx hnext hbb (by rw [hptr]; exact hrun) R gE gD fun a' w' j hj R' E' D' => ?_
          exact hK a' w' j hj (R'.bare hF) E' D'
      · cases hs
    · -- one is taken
      rw [left_iff] at he0
      obtain ⟨hmem, hns⟩ := he0
      obtain ⟨x, hx⟩ := List.mem_iff_getElem?.1 hmem
      have hlen : ents.toList.length = es.length := by
        have := congrArg List.length hbo; simpa using this
      have hxl : x < es.length := by have := (List.getElem?_eq_some_iff.1 hx).1; omega
      obtain ⟨k, v, st, hkv⟩ : ∃ k v st, es[x]? = some (k, v, st) := ⟨es[x].1, es[x].2.1, es[x].2.2, List.getElem?_eq_getElem hxl⟩
      obtain ⟨e1, he1, hborn, gk, gv⟩ := entry_rel hmr hbo hkv
      rw [hx] at he1
      simp only [Option.some.injEq] at he1; subst he1
      have hin : (k, v, st) ∈ unseen seen es := by
        rw [unseen_eq, List.mem_filter]
        refine ⟨List.mem_of_getElem? hkv, ?_⟩
        cases hh : stampIn st seen with
        | false => rfl
        | true => rw [hborn] at hns; exact absurd (stampIn_iff.1 hh) hns
      generalize hl : unseen seen es = l at hs hin
      cases l with
      | nil => simp at hin
      | cons y ys =>
        simp only at hs
        obtain ⟨e2, h2, hone, hjoin⟩ := each_ok hs k v st hin
        split at hone
        rotate_left
        · cases hone
        rename_i e3 h3 hnext
        cases hbb : isBool true (opd e3 L.cond) with
        | false => rw [hbb] at hone; simp at hone
        | true =>
        rw [hbb] at hone
        simp only [cond_true] at hone
        split at hone
        rotate_left
        · cases hone
        rename_i e4 h4 hbody
        -- the world behind 'next'
        have hheap : w1.heap = w.heap := by rcases hw1 with rfl | rfl <;> rfl
        have R1 : Rel S (F.with cI.1 (.mapIter (some cm.1) clock (sn.push st) clock)) i h.get h.next (ChangeMaps.setBlock w1 cI.1 (.mapIter (some cm.1) clock (sn.push e0.born) clock)) := by
          rw [hborn]
          refine R.reframe hF ?_ (fun q hq => ?_) ?_ ?_ ?_
          · have := (Array.getElem?_eq_some_iff.1 hr).1
            simp [ChangeMaps.setBlock, hheap, this]
          · simp only [ChangeMaps.setBlock, hheap, Array.getElem?_setIfInBounds]
            rw [if_neg (fun hh => hq hh.symm)]
          · rcases hw1 with rfl | rfl <;> rfl
          · rcases hw1 with rfl | rfl <;> rfl
          · rcases hw1 with rfl | rfl <;> rfl
        have gt : VRel i (.tup [.bool true, k, v]) (.tuple #[.bool true, e0.key, e0.val]) := by
          simp only [VRel]; exact ⟨[.bool true, e0.key, e0.val], by simp only [VRels, VRel]; exact ⟨trivial, gk, gv, trivial⟩, rfl⟩
        refine loopIn_of (wpIn_seq ?_)
        refine stepNext_ok hrec hnx hnext (by rw [hptr]; exact hrun) gt R1 gE gD fun a' w' j hj R2 E2 D2 => ?_
        refine wpIn_seq ?_
        have hc := opd_ok E2 (isBool_eq hbb)
        simp only [VRel] at hc
        refine wpIn_cond_true hc (wpIn_skip ?_)
        refine stepBody_ok hrec hen hCR hbody (hj _ _ hib) (hj _ _ hm) R2 E2 D2 fun a2 w2 j2 hj2 R3 E3 D3 => ?_
        refine allOrders_ok hrec hnx hen hCR n (st :: seen) e4 h4 e2 h2 hone F j2 a2 w2 cI cm (sn.push st) (hj2 _ _ (hj _ _ hib)) (hj2 _ _ (hj _ _ hm)) hF R3 E3 D3 ?_ K ?_
        · intro q
          simp only [List.mem_cons, hsn, Array.toList_push, List.mem_append, List.not_mem_nil, or_false]
          exact Or.comm
        · intro a3 w3 j3 hj3 R4 E4 D4
          obtain ⟨R5, E5⟩ := hjoin R4 E4
          exact hK a3 w3 j3 ((hj.trans hj2).trans hj3) R5 E5 D4

theorem overStamps_ok {one : Nat → Option (Env × Heap)} : ∀ {n : Nat} {e : Env} {h : Heap}, overStamps one n = some (e, h) → ∀ st, st < n → ∃ e1 h1, one st = some (e1, h1) ∧
    ∀ {S : String → Code → Prop} {F : Fr} {i : Emb} {w : World} {t : Array Value}, Rel S F i h1.get h1.next w → ERel i e1 t → Rel S F i h.get h.next w ∧ ERel i e t
  | 0, _, _, hs, _, hst => by omega
  | n + 1, e, h, hs, st, hst => by
    simp only [overStamps, cond_beq] at hs
    split at hs
    · rename_i hn
      obtain rfl : st = 0 := by omega
      exact ⟨e, h, hs, fun R E => ⟨R, E⟩⟩
    · obtain ⟨e1, h1, e2, h2, hx, hy, j1, j2⟩ := joinX_ok hs
      by_cases hh : st = n
      · subst hh; exact ⟨e1, h1, hx, j1⟩
      · obtain ⟨e3, h3, g1, g2⟩ := overStamps_ok hy st (by omega)
        exact ⟨e3, h3, g1, fun R E => let ⟨R', E'⟩ := g2 R E; j2 R' E'⟩

/-- A LOOP OVER A MAP's ENTRIES. -/
theorem mloop_ok (hrec : RecOk C S rec) {L : MLoop} {rest' : Code} (hnx : L.nx.op = .next L.it false) (hen : L.en.op = .entry L.it2) (hCR : CR S L.rest rest') {ds : List Nat} {e e' : Env} {h h' : Heap} (hs : mloop L rec ds e h = some (e', h'))
    {F : Fr} {i : Emb} {a : Act} {w : World} (R : Rel S F i h.get h.next w) (gE : ERel i e a.tmps) (gD : DRel i ds a.defers) : (Code.block L.id (.loop (L.round rest'))).wpIn (fc none) 0 C.P (Behind S F i .normal ds e' h') a w := by
  refine wpIn_block (loopIn_wp ?_)
  have hK : ∀ (a' : Act) (w' : World) (j : Emb), i.Le j → Rel S F j h'.get h'.next w' → ERel j e' a'.tmps → DRel j ds a'.defers → Exit.inBlock L.id (Behind S F i .normal ds e' h') (.exit L.id) a' w' := by
    intro a' w' j hj R' E' D'
    simp only [Exit.inBlock, if_true]
    exact ⟨rfl, j, hj, R', E', D'⟩
  unfold mloop at hs
  split at hs
  rotate_left
  · cases hs
  rename_i ib hit
  have hit' := opd_ok gE hit
  simp only [VRel] at hit'
  obtain ⟨cI, hib, hptr⟩ := hit'
  split at hs
  · rename_i hget
    obtain ⟨c', hc', ho⟩ := R.objs ib _ hget rfl
    rw [hib] at hc'; cases hc'
    obtain ⟨n, q, hO⟩ := ho
    obtain ⟨R', hF⟩ := R.hide hget rfl hib hO
    split at hs
    · rename_i e2 h2 hnext
      cases hbb : isBool false (opd e2 L.cond) with
      | false => rw [hbb] at hs; simp at hs
      | true =>
        rw [hbb] at hs
        simp only [cond_true, Option.some.injEq, Prod.mk.injEq] at hs
        obtain ⟨rfl, rfl⟩ := hs
        have hrun : (Instr.next (a.eval L.it) false L.nx.type).run C.P w = .ok (.tuple #[.bool false]) w := by
          rw [hptr]
          simp only [Instr.next, getObj, Sem.run_bind, Sem.run, hO, Result.andThen_ok]
          rfl
        have R'' : Rel S (F.with cI.1 (.mapIter none n #[] q)) i (h.set ib .dead).get (h.set ib .dead).next w := by rw [Heap.get_set']; exact R'
        exact over_ok hrec hnx hnext hbb hrun R'' gE gD fun a' w' j hj R3 E3 D3 => hK a' w' j hj (R3.bare hF) E3 D3
    · cases hs
  · rename_i m since hget
    obtain ⟨c', hc', ho⟩ := R.objs ib _ hget rfl
    rw [hib] at hc'; cases hc'
    obtain ⟨cm, hm, q, hO, rfl⟩ := ho
    obtain ⟨R', hF⟩ := R.hide hget rfl hib hO
    have R'' : Rel S (F.with cI.1 (.mapIter (some cm.1) q #[] q)) i (h.set ib .dead).get (h.set ib .dead).next w := by rw [Heap.get_set']; exact R'
    split at hs
    · rename_i k v clock hgm
      have hgm' : (h.set ib .dead).get m = some (.umap [(k, v)] clock) := by
        rw [Heap.get_set]
        split
        · rename_i hmb; subst hmb; rw [hget] at hgm; cases hgm
        · exact hgm
      obtain ⟨c', hc', ents, l, hwm, hperm, hmr, hap, hst⟩ := R''.objs m _ hgm' rfl
      rw [hm] at hc'; cases hc'
      have hl : l = [(k, v)] := List.perm_singleton.1 hperm
      subst hl
      obtain ⟨e0, he0, gk, gv⟩ : ∃ e0, ents.toList = [e0] ∧ VRel i k e0.key ∧ VRel i v e0.val := by
        match hE : ents.toList with
        | [] => rw [hE] at hmr; simp [MRel] at hmr
        | [x] => rw [hE] at hmr; simp only [MRel] at hmr; exact ⟨x, rfl, hmr.1, hmr.2.1⟩
        | _ :: _ :: _ => rw [hE] at hmr; simp [MRel] at hmr
      have hlt : e0.born < clock := hst.2 e0 (by rw [he0]; simp)
      obtain ⟨e1, h1, hone, hjoin⟩ := overStamps_ok hs e0.born hlt
      have R3 : Rel S (F.with cI.1 (.mapIter (some cm.1) q #[] q)) i ((h.set ib .dead).set m (.map [(k, v, e0.born)] clock)).get ((h.set ib .dead).set m (.map [(k, v, e0.born)] clock)).next w := by
        rw [Heap.get_set']
        refine R''.write hgm' rfl hm rfl ?_ (fun _ _ => rfl) rfl rfl rfl
        refine ⟨ents, hwm, ?_, ?_, ?_, hst⟩
        · rw [he0]; simp only [plainEs, List.map_cons, List.map_nil, MRel]; exact ⟨gk, gv, trivial⟩
        · rw [he0]; rfl
        · exact hap
      refine allOrders_ok hrec hnx hen hCR 6 [] e _ e1 h1 hone F i a w cI cm #[] hib hm hF R3 gE gD (by simp) _ fun a' w' j hj R4 E4 D4 => ?_
      obtain ⟨R5, E5⟩ := hjoin R4 E4
      exact hK a' w' j hj R5 E5 D4
    · exact allOrders_ok hrec hnx hen hCR 6 [] e _ e' h' hs F i a w cI cm #[] hib hm hF R'' gE gD (by simp) _ hK
  · cases hs

end
end
end Go.Ev
