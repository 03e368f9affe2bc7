/-
  EvRel: what an abstract heap says of a world. No condition.
-/
import Derived.Test.YtmmaneofdfbllaaGreatEvDefs
import Derived.Laws.Sem
set_option linter.unusedVariables false
set_option linter.unusedSimpArgs false
set_option linter.unusedSectionVars false
namespace Go.Ev
noncomputable section

/-! ### Tries -/

theorem beq_nat (a b : Nat) : a.beq b = decide (a = b) := by
  rw [Bool.eq_iff_iff, decide_eq_true_iff]; exact ⟨Nat.eq_of_beq_eq_true, fun h => h ▸ Nat.beq_refl a⟩
theorem ble_nat (a b : Nat) : a.ble b = decide (a ≤ b) := by
  rw [Bool.eq_iff_iff, decide_eq_true_iff]; exact ⟨Nat.le_of_ble_eq_true, Nat.ble_eq_true_of_le⟩
theorem blt_nat (a b : Nat) : a.blt b = decide (a < b) := by
  unfold Nat.blt; rw [ble_nat]; rfl
theorem cond_dec {α : Sort _} (p : Prop) [Decidable p] (x y : α) : (bif decide p then x else y) = if p then x else y := by
  by_cases h : p <;> simp [h]
theorem cond_beq {α : Sort _} (a b : Nat) (x y : α) : (bif a.beq b then x else y) = if a = b then x else y := by rw [beq_nat, cond_dec]
theorem cond_ble {α : Sort _} (a b : Nat) (x y : α) : (bif a.ble b then x else y) = if a ≤ b then x else y := by rw [ble_nat, cond_dec]
theorem cond_blt {α : Sort _} (a b : Nat) (x y : α) : (bif a.blt b then x else y) = if a < b then x else y := by rw [blt_nat, cond_dec]

theorem Tr.getP_leaf {α : Type} (p : Pt) : (Tr.leaf : Tr α).getP p = none := by cases p <;> rfl
theorem Tr.getP_o {α : Type} (t : Tr α) : t.getP .o = match t with | .leaf => none | .node v _ _ _ _ _ _ _ _ => v := by cases t <;> rfl
theorem Tr.setP_o {α : Type} (v : Option α) (t : Tr α) : Tr.setP v .o t = match t with | .leaf => .node v .leaf .leaf .leaf .leaf .leaf .leaf .leaf .leaf | .node _ c0 c1 c2 c3 c4 c5 c6 c7 => .node v c0 c1 c2 c3 c4 c5 c6 c7 := by cases t <;> rfl
theorem Tr.getP_w0 {α : Type} (p : Pt) (t : Tr α) : t.getP (.w0 p) = match t with | .leaf => none | .node _ c _ _ _ _ _ _ _ => c.getP p := by cases t <;> rfl
theorem Tr.setP_w0 {α : Type} (v : Option α) (p : Pt) (t : Tr α) : Tr.setP v (.w0 p) t = match t with | .leaf => .node none (Tr.setP v p .leaf) .leaf .leaf .leaf .leaf .leaf .leaf .leaf | .node w c0 c1 c2 c3 c4 c5 c6 c7 => .node w (Tr.setP v p c0) c1 c2 c3 c4 c5 c6 c7 := by cases t <;> rfl
theorem Tr.getP_w1 {α : Type} (p : Pt) (t : Tr α) : t.getP (.w1 p) = match t with | .leaf => none | .node _ _ c _ _ _ _ _ _ => c.getP p := by cases t <;> rfl
theorem Tr.setP_w1 {α : Type} (v : Option α) (p : Pt) (t : Tr α) : Tr.setP v (.w1 p) t = match t with | .leaf => .node none .leaf (Tr.setP v p .leaf) .leaf .leaf .leaf .leaf .leaf .leaf | .node w c0 c1 c2 c3 c4 c5 c6 c7 => .node w c0 (Tr.setP v p c1) c2 c3 c4 c5 c6 c7 := by cases t <;> rfl
theorem Tr.getP_w2 {α : Type} (p : Pt) (t : Tr α) : t.getP (.w2 p) = match t with | .leaf => none | .node _ _ _ c _ _ _ _ _ => c.getP p := by cases t <;> rfl
theorem Tr.setP_w2 {α : Type} (v : Option α) (p : Pt) (t : Tr α) : Tr.setP v (.w2 p) t = match t with | .leaf => .node none .leaf .leaf (Tr.setP v p .leaf) .leaf .leaf .leaf .leaf .leaf | .node w c0 c1 c2 c3 c4 c5 c6 c7 => .node w c0 c1 (Tr.setP v p c2) c3 c4 c5 c6 c7 := by cases t <;> rfl
theorem Tr.getP_w3 {α : Type} (p : Pt) (t : Tr α) : t.getP (.w3 p) = match t with | .leaf => none | .node _ _ _ _ c _ _ _ _ => c.getP p := by cases t <;> rfl
theorem Tr.setP_w3 {α : Type} (v : Option α) (p : Pt) (t : Tr α) : Tr.setP v (.w3 p) t = match t with | .leaf => .node none .leaf .leaf .leaf (Tr.setP v p .leaf) .leaf .leaf .leaf .leaf | .node w c0 c1 c2 c3 c4 c5 c6 c7 => .node w c0 c1 c2 (Tr.setP v p c3) c4 c5 c6 c7 := by cases t <;> rfl
theorem Tr.getP_w4 {α : Type} (p : Pt) (t : Tr α) : t.getP (.w4 p) = match t with | .leaf => none | .node _ _ _ _ _ c _ _ _ => c.getP p := by cases t <;> rfl
theorem Tr.setP_w4 {α : Type} (v : Option α) (p : Pt) (t : Tr α) : Tr.setP v (.w4 p) t = match t with | .leaf => .node none .leaf .leaf .leaf .leaf (Tr.setP v p .leaf) .leaf .leaf .leaf | .node w c0 c1 c2 c3 c4 c5 c6 c7 => .node w c0 c1 c2 c3 (Tr.setP v p c4) c5 c6 c7 := by cases t <;> rfl
theorem Tr.getP_w5 {α : Type} (p : Pt) (t : Tr α) : t.getP (.w5 p) = match t with | .leaf => none | .node _ _ _ _ _ _ c _ _ => c.getP p := by cases t <;> rfl
theorem Tr.setP_w5 {α : Type} (v : Option α) (p : Pt) (t : Tr α) : Tr.setP v (.w5 p) t = match t with | .leaf => .node none .leaf .leaf .leaf .leaf .leaf (Tr.setP v p .leaf) .leaf .leaf | .node w c0 c1 c2 c3 c4 c5 c6 c7 => .node w c0 c1 c2 c3 c4 (Tr.setP v p c5) c6 c7 := by cases t <;> rfl
theorem Tr.getP_w6 {α : Type} (p : Pt) (t : Tr α) : t.getP (.w6 p) = match t with | .leaf => none | .node _ _ _ _ _ _ _ c _ => c.getP p := by cases t <;> rfl
theorem Tr.setP_w6 {α : Type} (v : Option α) (p : Pt) (t : Tr α) : Tr.setP v (.w6 p) t = match t with | .leaf => .node none .leaf .leaf .leaf .leaf .leaf .leaf (Tr.setP v p .leaf) .leaf | .node w c0 c1 c2 c3 c4 c5 c6 c7 => .node w c0 c1 c2 c3 c4 c5 (Tr.setP v p c6) c7 := by cases t <;> rfl
theorem Tr.getP_w7 {α : Type} (p : Pt) (t : Tr α) : t.getP (.w7 p) = match t with | .leaf => none | .node _ _ _ _ _ _ _ _ c => c.getP p := by cases t <;> rfl
theorem Tr.setP_w7 {α : Type} (v : Option α) (p : Pt) (t : Tr α) : Tr.setP v (.w7 p) t = match t with | .leaf => .node none .leaf .leaf .leaf .leaf .leaf .leaf .leaf (Tr.setP v p .leaf) | .node w c0 c1 c2 c3 c4 c5 c6 c7 => .node w c0 c1 c2 c3 c4 c5 c6 (Tr.setP v p c7) := by cases t <;> rfl
theorem Tr.getP_setP {α : Type} (v : Option α) : ∀ (p q : Pt) (t : Tr α), (Tr.setP v p t).getP q = if q = p then v else t.getP q
  | .o, q, t => by rw [Tr.setP_o]; cases t <;> cases q <;> simp [Tr.getP_o, Tr.getP_leaf, Tr.getP_w0, Tr.getP_w1, Tr.getP_w2, Tr.getP_w3, Tr.getP_w4, Tr.getP_w5, Tr.getP_w6, Tr.getP_w7]
  | .w0 p, q, t => by
    rw [Tr.setP_w0]
    cases t with
    | leaf =>
      cases q with
      | w0 q => simp only [Tr.getP_w0, Tr.getP_setP v p q, Pt.w0.injEq, Tr.getP_leaf]
      | _ => simp [Tr.getP_o, Tr.getP_leaf, Tr.getP_w1, Tr.getP_w2, Tr.getP_w3, Tr.getP_w4, Tr.getP_w5, Tr.getP_w6, Tr.getP_w7]
    | node w c0 c1 c2 c3 c4 c5 c6 c7 =>
      cases q with
      | w0 q => simp only [Tr.getP_w0, Tr.getP_setP v p q, Pt.w0.injEq]
      | _ => simp [Tr.getP_o, Tr.getP_w1, Tr.getP_w2, Tr.getP_w3, Tr.getP_w4, Tr.getP_w5, Tr.getP_w6, Tr.getP_w7]
  | .w1 p, q, t => by
    rw [Tr.setP_w1]
    cases t with
    | leaf =>
      cases q with
      | w1 q => simp only [Tr.getP_w1, Tr.getP_setP v p q, Pt.w1.injEq, Tr.getP_leaf]
      | _ => simp [Tr.getP_o, Tr.getP_leaf, Tr.getP_w0, Tr.getP_w2, Tr.getP_w3, Tr.getP_w4, Tr.getP_w5, Tr.getP_w6, Tr.getP_w7]
    | node w c0 c1 c2 c3 c4 c5 c6 c7 =>
      cases q with
      | w1 q => simp only [Tr.getP_w1, Tr.getP_setP v p q, Pt.w1.injEq]
      | _ => simp [Tr.getP_o, Tr.getP_w0, Tr.getP_w2, Tr.getP_w3, Tr.getP_w4, Tr.getP_w5, Tr.getP_w6, Tr.getP_w7]
  | .w2 p, q, t => by
    rw [Tr.setP_w2]
    cases t with
    | leaf =>
      cases q with
      | w2 q => simp only [Tr.getP_w2, Tr.getP_setP v p q, Pt.w2.injEq, Tr.getP_leaf]
      | _ => simp [Tr.getP_o, Tr.getP_leaf, Tr.getP_w0, Tr.getP_w1, Tr.getP_w3, Tr.getP_w4, Tr.getP_w5, Tr.getP_w6, Tr.getP_w7]
    | node w c0 c1 c2 c3 c4 c5 c6 c7 =>
      cases q with
      | w2 q => simp only [Tr.getP_w2, Tr.getP_setP v p q, Pt.w2.injEq]
      | _ => simp [Tr.getP_o, Tr.getP_w0, Tr.getP_w1, Tr.getP_w3, Tr.getP_w4, Tr.getP_w5, Tr.getP_w6, Tr.getP_w7]
  | .w3 p, q, t => by
    rw [Tr.setP_w3]
    cases t with
    | leaf =>
      cases q with
      | w3 q => simp only [Tr.getP_w3, Tr.getP_setP v p q, Pt.w3.injEq, Tr.getP_leaf]
      | _ => simp [Tr.getP_o, Tr.getP_leaf, Tr.getP_w0, Tr.getP_w1, Tr.getP_w2, Tr.getP_w4, Tr.getP_w5, Tr.getP_w6, Tr.getP_w7]
    | node w c0 c1 c2 c3 c4 c5 c6 c7 =>
      cases q with
      | w3 q => simp only [Tr.getP_w3, Tr.getP_setP v p q, Pt.w3.injEq]
      | _ => simp [Tr.getP_o, Tr.getP_w0, Tr.getP_w1, Tr.getP_w2, Tr.getP_w4, Tr.getP_w5, Tr.getP_w6, Tr.getP_w7]
  | .w4 p, q, t => by
    rw [Tr.setP_w4]
    cases t with
    | leaf =>
      cases q with
      | w4 q => simp only [Tr.getP_w4, Tr.getP_setP v p q, Pt.w4.injEq, Tr.getP_leaf]
      | _ => simp [Tr.getP_o, Tr.getP_leaf, Tr.getP_w0, Tr.getP_w1, Tr.getP_w2, Tr.getP_w3, Tr.getP_w5, Tr.getP_w6, Tr.getP_w7]
    | node w c0 c1 c2 c3 c4 c5 c6 c7 =>
      cases q with
      | w4 q => simp only [Tr.getP_w4, Tr.getP_setP v p q, Pt.w4.injEq]
      | _ => simp [Tr.getP_o, Tr.getP_w0, Tr.getP_w1, Tr.getP_w2, Tr.getP_w3, Tr.getP_w5, Tr.getP_w6, Tr.getP_w7]
  | .w5 p, q, t => by
    rw [Tr.setP_w5]
    cases t with
    | leaf =>
      cases q with
      | w5 q => simp only [Tr.getP_w5, Tr.getP_setP v p q, Pt.w5.injEq, Tr.getP_leaf]
      | _ => simp [Tr.getP_o, Tr.getP_leaf, Tr.getP_w0, Tr.getP_w1, Tr.getP_w2, Tr.getP_w3, Tr.getP_w4, Tr.getP_w6, Tr.getP_w7]
    | node w c0 c1 c2 c3 c4 c5 c6 c7 =>
      cases q with
      | w5 q => simp only [Tr.getP_w5, Tr.getP_setP v p q, Pt.w5.injEq]
      | _ => simp [Tr.getP_o, Tr.getP_w0, Tr.getP_w1, Tr.getP_w2, Tr.getP_w3, Tr.getP_w4, Tr.getP_w6, Tr.getP_w7]
  | .w6 p, q, t => by
    rw [Tr.setP_w6]
    cases t with
    | leaf =>
      cases q with
      | w6 q => simp only [Tr.getP_w6, Tr.getP_setP v p q, Pt.w6.injEq, Tr.getP_leaf]
      | _ => simp [Tr.getP_o, Tr.getP_leaf, Tr.getP_w0, Tr.getP_w1, Tr.getP_w2, Tr.getP_w3, Tr.getP_w4, Tr.getP_w5, Tr.getP_w7]
    | node w c0 c1 c2 c3 c4 c5 c6 c7 =>
      cases q with
      | w6 q => simp only [Tr.getP_w6, Tr.getP_setP v p q, Pt.w6.injEq]
      | _ => simp [Tr.getP_o, Tr.getP_w0, Tr.getP_w1, Tr.getP_w2, Tr.getP_w3, Tr.getP_w4, Tr.getP_w5, Tr.getP_w7]
  | .w7 p, q, t => by
    rw [Tr.setP_w7]
    cases t with
    | leaf =>
      cases q with
      | w7 q => simp only [Tr.getP_w7, Tr.getP_setP v p q, Pt.w7.injEq, Tr.getP_leaf]
      | _ => simp [Tr.getP_o, Tr.getP_leaf, Tr.getP_w0, Tr.getP_w1, Tr.getP_w2, Tr.getP_w3, Tr.getP_w4, Tr.getP_w5, Tr.getP_w6]
    | node w c0 c1 c2 c3 c4 c5 c6 c7 =>
      cases q with
      | w7 q => simp only [Tr.getP_w7, Tr.getP_setP v p q, Pt.w7.injEq]
      | _ => simp [Tr.getP_o, Tr.getP_w0, Tr.getP_w1, Tr.getP_w2, Tr.getP_w3, Tr.getP_w4, Tr.getP_w5, Tr.getP_w6]
theorem turn_inj {d e : Nat} {p q : Pt} (hd : d < 8) (he : e < 8) (h : turn d p = turn e q) : d = e ∧ p = q := by
  have : ∀ d : Nat, d < 8 → d = 0 ∨ d = 1 ∨ d = 2 ∨ d = 3 ∨ d = 4 ∨ d = 5 ∨ d = 6 ∨ d = 7 := by omega
  rcases this d hd with rfl | rfl | rfl | rfl | rfl | rfl | rfl | rfl <;> rcases this e he with rfl | rfl | rfl | rfl | rfl | rfl | rfl | rfl <;> first | exact ⟨rfl, by injection h⟩ | exact absurd h (by intro h; injection h) | exact absurd h (fun h => Pt.noConfusion h)
theorem turn_ne {d : Nat} {p : Pt} : turn d p ≠ .o := by
  rcases d with _ | _ | _ | _ | _ | _ | _ | d <;> exact fun h => Pt.noConfusion h
theorem pathIn_inj : ∀ (f g n m : Nat), n < f → m < g → pathIn f n = pathIn g m → n = m
  | 0, _, _, _, h, _, _ => by omega
  | _, 0, _, _, _, h, _ => by omega
  | f + 1, g + 1, n, m, h1, h2, h => by
    have e1 : ∀ k, Nat.mod (Nat.pred k) 8 = (k - 1) % 8 := fun _ => rfl
    have e2 : ∀ k, Nat.div (Nat.pred k) 8 = (k - 1) / 8 := fun _ => rfl
    simp only [pathIn, cond_beq, e1, e2] at h
    have ih := pathIn_inj f g ((n - 1) / 8) ((m - 1) / 8)
    by_cases hn : n = 0
    · by_cases hm : m = 0
      · omega
      · rw [if_pos hn, if_neg hm] at h; exact absurd h.symm turn_ne
    · by_cases hm : m = 0
      · rw [if_neg hn, if_pos hm] at h; exact absurd h turn_ne
      · rw [if_neg hn, if_neg hm] at h
        obtain ⟨h3, h4⟩ := turn_inj (Nat.mod_lt _ (by omega)) (Nat.mod_lt _ (by omega)) h
        have := ih (by omega) (by omega) h4
        omega
theorem path_inj {n m : Nat} : path n = path m ↔ n = m := ⟨pathIn_inj _ _ _ _ (Nat.lt_succ_self _) (Nat.lt_succ_self _), fun h => h ▸ rfl⟩
theorem Tr.get_leaf {α : Type} (n : Nat) : (Tr.leaf : Tr α).get n = none := Tr.getP_leaf _
theorem Tr.get_put {α : Type} (t : Tr α) (n m : Nat) (v : α) : (t.put n v).get m = if m = n then some v else t.get m := by
  unfold Tr.get Tr.put; rw [Tr.getP_setP]; by_cases h : m = n
  · rw [if_pos h, if_pos (path_inj.2 h)]
  · rw [if_neg h, if_neg (fun e => h (path_inj.1 e))]

theorem Heap.get_set (h : Heap) (b c : Nat) (o : AObj) : (h.set b o).get c = if c = b then some o else h.get c := Tr.get_put _ _ _ _
theorem Heap.get_add (h : Heap) (c : Nat) (o : AObj) : (h.add o).get c = if c = h.next then some o else h.get c := Tr.get_put _ _ _ _
@[simp] theorem Heap.next_set (h : Heap) (b : Nat) (o : AObj) : (h.set b o).next = h.next := rfl
@[simp] theorem Heap.next_add (h : Heap) (o : AObj) : (h.add o).next = h.next + 1 := rfl

theorem Env.get_set (e : Env) (t u : Nat) (v : AV) : (e.set t v).get u = if u = t ∧ t < e.n then v else e.get u := by
  unfold Env.set
  rw [cond_blt]
  by_cases h : t < e.n
  · simp only [h, if_true, Env.get, Tr.get_put, and_true]
    by_cases hu : u = t <;> simp [hu]
  · simp [h]
@[simp] theorem Env.n_set (e : Env) (t : Nat) (v : AV) : (e.set t v).n = e.n := by
  unfold Env.set; cases h : t.blt e.n <;> simp
@[simp] theorem Env.n_put (e : Env) (d : Option Tmp) (v : AV) : (e.put d v).n = e.n := by
  cases d <;> simp [Env.put]

/-! ### Values -/

/-- Where a block lies, and how many cells it has. -/
abbrev Emb := Nat → Option (Nat × Nat)
def Emb.Le (i j : Emb) : Prop := ∀ b c, i b = some c → j b = some c
theorem Emb.Le.refl (i : Emb) : i.Le i := fun _ _ h => h
theorem Emb.Le.trans {i j k : Emb} (h : i.Le j) (g : j.Le k) : i.Le k := fun b c x => g b c (h b c x)

def capOk (tot o n m : Nat) : Cap → Prop
  | .ex c => m = c ∧ n ≤ c
  | .rest s => n ≤ m ∧ o + m * s ≤ tot

mutual
def VRel (i : Emb) : AV → Value → Prop
  | .bool b, x => x = .bool b
  | .int k n, x => x = .int k n
  | .str s, x => ∃ t : ByteArray, x = .string t ∧ t.data.toList.map UInt8.toNat = s
  | .nilptr, x => x = .pointer none
  | .ptr b o, x => ∃ c, i b = some c ∧ x = .pointer (some ⟨c.1, o, none⟩)
  | .nilsl, x => x = .slice none 0 0
  | .sl b o n cap, x => ∃ c m, i b = some c ∧ x = .slice (some ⟨c.1, o, none⟩) n m ∧ capOk c.2 o n m cap
  | .emp, x => ∃ a m, x = .slice (some a) 0 m
  | .nilmap, x => x = .map none
  | .map b, x => ∃ c, i b = some c ∧ x = .map (some c.1)
  | .nilfn, x => x = .nilFunc
  | .fn f l m, x => ∃ l' m', VRels i l l' ∧ VRels i m m' ∧ x = .func (.func f) l'.toArray m'.toArray
  | .yield l, x => ∃ c, i l = some c ∧ x = .func (.yield c.1) #[] #[]
  | .agg l, x => ∃ l', VRels i l l' ∧ x = .agg l'.toArray
  | .tup l, x => ∃ l', VRels i l l' ∧ x = .tuple l'.toArray
  | .unk, _ => True
def VRels (i : Emb) : List AV → List Value → Prop
  | [], [] => True
  | v :: l, x :: m => VRel i v x ∧ VRels i l m
  | _, _ => False
end

mutual
theorem VRel.mono {i j : Emb} (h : i.Le j) : ∀ (v : AV) (x : Value), VRel i v x → VRel j v x
  | .bool _, _, g | .int _ _, _, g | .str _, _, g | .nilptr, _, g | .nilsl, _, g | .emp, _, g | .nilmap, _, g | .nilfn, _, g | .unk, _, g => by
    first
      | (simp only [VRel]; done)
      | (simp only [VRel] at g ⊢; exact g)
  | .ptr _ _, _, g => by simp only [VRel] at g ⊢; obtain ⟨c, hc, hx⟩ := g; exact ⟨c, h _ _ hc, hx⟩
  | .sl _ _ _ _, _, g => by simp only [VRel] at g ⊢; obtain ⟨c, m, hc, hx⟩ := g; exact ⟨c, m, h _ _ hc, hx⟩
  | .map _, _, g => by simp only [VRel] at g ⊢; obtain ⟨c, hc, hx⟩ := g; exact ⟨c, h _ _ hc, hx⟩
  | .yield _, _, g => by simp only [VRel] at g ⊢; obtain ⟨c, hc, hx⟩ := g; exact ⟨c, h _ _ hc, hx⟩
  | .fn _ l m, _, g => by
    simp only [VRel] at g ⊢
    obtain ⟨l', m', hl, hm, hx⟩ := g
    exact ⟨l', m', VRels.mono h l l' hl, VRels.mono h m m' hm, hx⟩
  | .agg l, _, g => by simp only [VRel] at g ⊢; obtain ⟨l', hl, hx⟩ := g; exact ⟨l', VRels.mono h l l' hl, hx⟩
  | .tup l, _, g => by simp only [VRel] at g ⊢; obtain ⟨l', hl, hx⟩ := g; exact ⟨l', VRels.mono h l l' hl, hx⟩
theorem VRels.mono {i j : Emb} (h : i.Le j) : ∀ (l : List AV) (m : List Value), VRels i l m → VRels j l m
  | [], [], _ => by simp [VRels]
  | v :: l, x :: m, g => by simp only [VRels] at g ⊢; exact ⟨VRel.mono h v x g.1, VRels.mono h l m g.2⟩
  | [], _ :: _, g => by simp [VRels] at g
  | _ :: _, [], g => by simp [VRels] at g
end

theorem VRels.length {i : Emb} : ∀ {l : List AV} {m : List Value}, VRels i l m → l.length = m.length
  | [], [], _ => rfl
  | v :: l, x :: m, g => by simp only [VRels] at g; simp [VRels.length g.2]
  | [], _ :: _, g => by simp [VRels] at g
  | _ :: _, [], g => by simp [VRels] at g
theorem VRels.append {i : Emb} : ∀ {l l' : List AV} {m m' : List Value}, VRels i l m → VRels i l' m' → VRels i (l ++ l') (m ++ m')
  | [], _, [], _, _, h => h
  | v :: l, _, x :: m, _, g, h => by simp only [VRels, List.cons_append] at g ⊢; exact ⟨g.1, VRels.append g.2 h⟩
  | [], _, _ :: _, _, g, _ => by simp [VRels] at g
  | _ :: _, _, [], _, g, _ => by simp [VRels] at g
theorem VRels.get {i : Emb} : ∀ {l : List AV} {m : List Value} (k : Nat) {v : AV}, VRels i l m → l[k]? = some v → ∃ x, m[k]? = some x ∧ VRel i v x
  | [], _, k, _, _, h => by simp at h
  | v :: l, x :: m, 0, u, g, h => by simp only [VRels] at g; simp at h; subst h; exact ⟨x, by simp, g.1⟩
  | v :: l, x :: m, k + 1, u, g, h => by simp only [VRels] at g; simp at h; simpa using VRels.get k g.2 h
  | _ :: _, [], _, _, g, _ => by simp [VRels] at g
theorem VRels.take {i : Emb} : ∀ {l : List AV} {m : List Value} (k : Nat), VRels i l m → VRels i (l.take k) (m.take k)
  | [], [], k, _ => by simp [VRels]
  | _ :: _, _ :: _, 0, _ => by simp [VRels]
  | v :: l, x :: m, k + 1, g => by simp only [VRels, List.take_succ_cons] at g ⊢; exact ⟨g.1, VRels.take k g.2⟩
  | [], _ :: _, _, g => by simp [VRels] at g
  | _ :: _, [], _, g => by simp [VRels] at g
theorem VRels.drop {i : Emb} : ∀ {l : List AV} {m : List Value} (k : Nat), VRels i l m → VRels i (l.drop k) (m.drop k)
  | [], [], k, _ => by simp [VRels]
  | v :: l, x :: m, 0, g => by simpa using g
  | v :: l, x :: m, k + 1, g => by simp only [VRels, List.drop_succ_cons] at g ⊢; exact VRels.drop k g.2
  | [], _ :: _, _, g => by simp [VRels] at g
  | _ :: _, [], _, g => by simp [VRels] at g

/-- A value that lies in one cell does so on both sides. -/
theorem VRel.oneCell {i : Emb} {v : AV} {x : Value} (h : VRel i v x) (ho : v.one = true) : x.oneCell' = true := by
  cases v <;> simp only [VRel, AV.one, Bool.false_eq_true] at h ho <;>
    first
      | (subst h; rfl)
      | (obtain ⟨_, rfl, _⟩ := h; rfl)
      | (obtain ⟨_, _, rfl⟩ := h; rfl)
      | (obtain ⟨_, _, _, rfl, _⟩ := h; rfl)
      | (obtain ⟨_, _, _, _, rfl⟩ := h; rfl)

theorem VRel.ofCells {i : Emb} {v : AV} {x : Value} (h : VRel i v x) (hu : v ≠ .unk) : VRels i v.cells x.cells.toList := by
  cases v <;> simp only [VRel] at h
  case unk => exact absurd rfl hu
  case agg l => obtain ⟨l', hl, rfl⟩ := h; simpa [AV.cells, Value.cells] using hl
  case tup l => obtain ⟨l', hl, rfl⟩ := h; simp only [AV.cells, Value.cells, VRels]; exact ⟨⟨l', hl, rfl⟩, trivial⟩
  all_goals
    first
      | (subst h; simp [AV.cells, Value.cells, VRels, VRel])
      | (obtain ⟨t, rfl, ht⟩ := h; simp only [AV.cells, Value.cells, VRels, VRel]; exact ⟨⟨t, rfl, ht⟩, trivial⟩)
      | (obtain ⟨c, hc, rfl⟩ := h; simp only [AV.cells, Value.cells, VRels, VRel]; exact ⟨⟨c, hc, rfl⟩, trivial⟩)
      | (obtain ⟨c, m, hc, rfl, ho⟩ := h; simp only [AV.cells, Value.cells, VRels, VRel]; exact ⟨⟨c, m, hc, rfl, ho⟩, trivial⟩)
      | (obtain ⟨a, m, rfl⟩ := h; simp only [AV.cells, Value.cells, VRels, VRel]; exact ⟨⟨a, m, rfl⟩, trivial⟩)
      | (obtain ⟨l', m', hl, hm, rfl⟩ := h; simp only [AV.cells, Value.cells, VRels, VRel]; exact ⟨⟨l', m', hl, hm, rfl⟩, trivial⟩)

/-! ### Environments -/

def ERel (i : Emb) (e : Env) (a : Array Value) : Prop := a.size = e.n ∧ ∀ t, VRel i (e.get t) (a.getD t undef)
theorem ERel.mono {i j : Emb} (h : i.Le j) {e : Env} {a : Array Value} (g : ERel i e a) : ERel j e a := ⟨g.1, fun t => (g.2 t).mono h⟩
theorem ERel.put {i : Emb} {e : Env} {a : Act} {v : AV} {x : Value} (g : ERel i e a.tmps) (h : VRel i v x) (d : Option Tmp) :
    ERel i (e.put d v) (a.put d x).tmps := by
  cases d with
  | none => exact g
  | some d =>
    refine ⟨by simp [Act.put, g.1], fun t => ?_⟩
    simp only [Env.put, Act.put, Env.get_set, Array.getD_eq_getD_getElem?, Array.getElem?_setIfInBounds]
    by_cases ht : t = d
    · subst ht
      by_cases hn : t < e.n
      · simp only [hn, and_self, if_true, g.1, Option.getD_some]
        exact h
      · simp only [hn, and_false, if_false, g.1, if_true]
        have := g.2 t
        simpa [Array.getD_eq_getD_getElem?, Array.getElem?_eq_none (show a.tmps.size ≤ t by rw [g.1]; omega)] using this
    · rw [if_neg (by simp [ht]), if_neg (fun hh => ht hh.symm)]
      have := g.2 t
      rwa [Array.getD_eq_getD_getElem?] at this
theorem ERel.eval {i : Emb} {e : Env} {a : Act} (g : ERel i e a.tmps) (t : Tmp) : VRel i (e.get t) (a.eval (.tmp t)) := g.2 t

/-! ### Objects -/

/-- What the machine holds that the evaluator does not touch. -/
structure Fr where
  blocks : Nat → Option Obj
  /-- Blocks that may be read under other names. -/
  ro : Nat → Prop
  roIn : ∀ c, ro c → (blocks c).isSome = true
  os : Os
  output : Array (Nat × ByteArray)
  tape : Nat → Question → Nat

def MRel (i : Emb) : List (AV × AV) → List MapEntry → Prop
  | [], [] => True
  | (k, v) :: l, e :: m => VRel i k e.key ∧ VRel i v e.val ∧ MRel i l m
  | _, _ => False
/-- Keys that can be told apart. -/
def keysApart : List (AV × AV) → Prop
  | [] => True
  | (k, _) :: l => (∀ x ∈ l, keyEq k x.1 = some false ∧ keyEq x.1 k = some false) ∧ keysApart l
/-- Entries' stamps are apart, and below the clock. -/
def Stamps (es : Array MapEntry) (clock : Nat) : Prop := (es.toList.map (·.born)).Nodup ∧ ∀ e ∈ es.toList, e.born < clock

def RowRel (i : Emb) (tot : Nat) (cs : List AV) (o : Option Obj) : Prop :=
  ∃ arr el lo hi, o = some (.cells arr el (lo, hi)) ∧ arr.size = tot ∧ cs.length ≤ tot ∧ VRels i cs (arr.toList.take cs.length) ∧ (lo = hi ∨ tot ≤ lo)

def plainEs (es : List (AV × AV × Nat)) : List (AV × AV) := es.map fun x => (x.1, x.2.1)

/-- Code of the evaluator's, and what it stands for. -/
inductive CR (S : String → Code → Prop) : Code → Code → Prop where
  | skip : CR S .skip .skip
  | label (l : Nat) : CR S (.label l) (.label l)
  | region (id : Nat) (ops : Array Oper) (d : Bool) : CR S (.region id ops d) (.region id ops d)
  | seq {a b a' b' : Code} : CR S a a' → CR S b b' → CR S (.seq a b) (.seq a' b')
  | cond {c : Operand} {a b a' b' : Code} : CR S a a' → CR S b b' → CR S (.cond c a b) (.cond c a' b')
  | block {id : Nat} {a a' : Code} : CR S a a' → CR S (.block id a) (.block id a')
  | loop {a a' : Code} : CR S a a' → CR S (.loop a) (.loop a')
  | scope {a a' : Code} : CR S a a' → CR S (.scope a) (.scope a')
  | exit (id : Nat) : CR S (.exit id) (.exit id)
  | ret : CR S .ret .ret
  | range {f : Operand} {ps : Array Tmp} {a b a' b' : Code} : CR S a a' → CR S b b' → CR S (.rangeFunc f ps a b) (.rangeFunc f ps a' b')
  | sum {s : String} {c : Code} : S s c → CR S (.refuse s) c

def ORel (S : String → Code → Prop) (i : Emb) (tot : Nat) : AObj → Option Obj → Prop
  | .cells cs, o => RowRel i tot cs o
  | .ro cs, o => ∃ arr el fz, o = some (.cells arr el fz) ∧ arr.size = tot ∧ cs.length ≤ tot ∧ VRels i cs (arr.toList.take cs.length)
  | .map es clock, o => ∃ ents : Array MapEntry, o = some (.map ents clock) ∧ MRel i (plainEs es) ents.toList ∧ ents.toList.map (·.born) = es.map (·.2.2) ∧ keysApart (plainEs es) ∧ Stamps ents clock
  | .umap es clock, o => ∃ (ents : Array MapEntry) (l : List (AV × AV)), o = some (.map ents clock) ∧ l.Perm es ∧ MRel i l ents.toList ∧ keysApart es ∧ Stamps ents clock
  | .miter none, o => ∃ n m, o = some (.mapIter none n #[] m)
  | .miter (some (b, clock)), o => ∃ c, i b = some c ∧ ∃ m, o = some (.mapIter (some c.1) clock #[] m) ∧ m = clock
  | .loop r, o => ∃ R : Loop, o = some (.loop R) ∧ R.state = r.state ∧ R.pending = r.pending ∧ ERel i { n := r.n, t := r.tmps } R.tmps ∧
      R.params.toList = r.params ∧ CR S r.assign R.assign ∧ CR S r.body R.body ∧ ∃ c, i r.defers = some c ∧ R.defers = c.1
  | .defd, o => o = some (.deferred (some []))
  | .dead, _ => True

def AObj.live : AObj → Bool
  | .dead => false
  | _ => true
/-- May it be written to? -/
def AObj.own : AObj → Bool
  | .dead | .ro _ => false
  | _ => true

/-- The blocks of an abstract heap lie in a world. -/
def Objs (S : String → Code → Prop) (i : Emb) (G : Nat → Option AObj) (w : World) : Prop :=
  ∀ b o, G b = some o → o.live = true → ∃ c, i b = some c ∧ ORel S i c.2 o w.heap[c.1]?

/-- An abstract heap says of a world what is in it, beside a frame. -/
structure Rel (S : String → Code → Prop) (F : Fr) (i : Emb) (G : Nat → Option AObj) (n : Nat) (w : World) : Prop where
  objs : Objs S i G w
  inj : ∀ b b' o o' c c', G b = some o → G b' = some o' → o.own = true → o'.own = true → i b = some c → i b' = some c' → c.1 = c'.1 → b = b'
  fresh : ∀ b, n ≤ b → i b = none ∧ G b = none
  keep : ∀ c o, F.blocks c = some o → w.heap[c]? = some o
  apart : ∀ b o c, G b = some o → o.own = true → i b = some c → F.blocks c.1 = none
  roFr : ∀ b cs c, G b = some (.ro cs) → i b = some c → F.ro c.1
  os : w.os = F.os
  output : w.output = F.output
  tape : w.tape = F.tape

theorem MRel.mono {i j : Emb} (h : i.Le j) : ∀ {l : List (AV × AV)} {m : List MapEntry}, MRel i l m → MRel j l m
  | [], [], _ => by simp [MRel]
  | (_, _) :: l, _ :: m, g => by simp only [MRel] at g ⊢; exact ⟨g.1.mono h, g.2.1.mono h, MRel.mono h g.2.2⟩
  | [], _ :: _, g => by simp [MRel] at g
  | (_, _) :: _, [], g => by simp [MRel] at g
theorem ORel.mono {S : String → Code → Prop} {i j : Emb} (h : i.Le j) {tot : Nat} {a : AObj} {o : Option Obj} (g : ORel S i tot a o) : ORel S j tot a o := by
  cases a with
  | cells cs => obtain ⟨arr, el, lo, hi, h1, h2, h3, h4, h5⟩ := g; exact ⟨arr, el, lo, hi, h1, h2, h3, VRels.mono h _ _ h4, h5⟩
  | ro cs => obtain ⟨arr, el, fz, h1, h2, h3, h4⟩ := g; exact ⟨arr, el, fz, h1, h2, h3, VRels.mono h _ _ h4⟩
  | map es clock => obtain ⟨ents, h1, h2, h3, h4, h5⟩ := g; exact ⟨ents, h1, h2.mono h, h3, h4, h5⟩
  | umap es clock => obtain ⟨ents, l, h1, h2, h3, h4, h5⟩ := g; exact ⟨ents, l, h1, h2, h3.mono h, h4, h5⟩
  | miter m =>
    cases m with
    | none => exact g
    | some p => obtain ⟨b, clock⟩ := p; obtain ⟨c, hc, m, hm⟩ := g; exact ⟨c, h _ _ hc, m, hm⟩
  | loop r =>
    obtain ⟨R, h1, h2, h3, h4, h5, h6, h7, c, hc, h8⟩ := g
    exact ⟨R, h1, h2, h3, h4.mono h, h5, h6, h7, c, h _ _ hc, h8⟩
  | defd => exact g
  | dead => exact g

theorem ORel.some {S : String → Code → Prop} {i : Emb} {tot : Nat} {a : AObj} {o : Option Obj} (g : ORel S i tot a o) (ha : a.live = true) : ∃ x, o = some x := by
  cases a with
  | cells cs => obtain ⟨arr, el, lo, hi, h1, _⟩ := g; exact ⟨_, h1⟩
  | ro cs => obtain ⟨arr, el, fz, h1, _⟩ := g; exact ⟨_, h1⟩
  | map es clock => obtain ⟨ents, h1, _⟩ := g; exact ⟨_, h1⟩
  | umap es clock => obtain ⟨ents, l, h1, _⟩ := g; exact ⟨_, h1⟩
  | miter m =>
    cases m with
    | none => obtain ⟨n, m, h1⟩ := g; exact ⟨_, h1⟩
    | some p => obtain ⟨b, clock⟩ := p; obtain ⟨c, hc, m, h1, _⟩ := g; exact ⟨_, h1⟩
  | loop r => obtain ⟨R, h1, _⟩ := g; exact ⟨_, h1⟩
  | defd => exact ⟨_, g⟩
  | dead => simp [AObj.live] at ha
theorem AObj.own_live {o : AObj} (h : o.own = true) : o.live = true := by cases o <;> simp_all [AObj.own, AObj.live]

def Emb.upd (i : Emb) (b : Nat) (c : Nat × Nat) : Emb := fun d => if d = b then some c else i d
def updG (G : Nat → Option AObj) (b : Nat) (o : AObj) : Nat → Option AObj := fun c => if c = b then some o else G c
theorem Emb.le_upd {i : Emb} {b : Nat} (h : i b = none) (c : Nat × Nat) : i.Le (i.upd b c) := by
  intro d x hx
  unfold Emb.upd
  rw [if_neg (by rintro rfl; rw [h] at hx; cases hx)]
  exact hx
theorem Emb.upd_same (i : Emb) (b : Nat) (c : Nat × Nat) : (i.upd b c) b = some c := by simp [Emb.upd]
theorem Heap.get_set' (h : Heap) (b : Nat) (o : AObj) : (h.set b o).get = updG h.get b o := by funext c; exact Heap.get_set _ _ _ _
theorem Heap.get_add' (h : Heap) (o : AObj) : (h.add o).get = updG h.get h.next o := by funext c; exact Heap.get_add _ _ _

section
variable {S : String → Code → Prop} {F : Fr} {i : Emb} {G : Nat → Option AObj} {n : Nat} {w w' : World}

/-- A world that differs in nothing that counts. -/
theorem Rel.world (R : Rel S F i G n w) (h1 : w'.heap = w.heap) (h2 : w'.os = w.os) (h3 : w'.output = w.output) (h4 : w'.tape = w.tape) : Rel S F i G n w' :=
  { objs := by intro b o hb ho; rw [h1]; exact R.objs b o hb ho
    inj := R.inj, fresh := R.fresh, apart := R.apart, roFr := R.roFr
    keep := by intro c o hc; rw [h1]; exact R.keep c o hc
    os := by rw [h2, R.os], output := by rw [h3, R.output], tape := by rw [h4, R.tape] }
theorem Rel.raise (R : Rel S F i G n w) {m : Nat} (h : n ≤ m) : Rel S F i G m w :=
  { R with fresh := fun b hb => R.fresh b (Nat.le_trans h hb) }
theorem Rel.lt_size (R : Rel S F i G n w) {b : Nat} {o : AObj} {c : Nat × Nat} (hb : G b = some o) (ho : o.live = true) (hc : i b = some c) : c.1 < w.heap.size := by
  obtain ⟨c', hc', hr⟩ := R.objs b o hb ho
  rw [hc] at hc'; cases hc'
  obtain ⟨x, hx⟩ := hr.some ho
  exact (Array.getElem?_eq_some_iff.1 hx).1

/-- A new block. -/
theorem Rel.add (R : Rel S F i G n w) {b m tot : Nat} {O : Obj} {ob : AObj} (hb : i b = none) (hg : G b = none) (hbm : b < m) (hnm : n ≤ m)
    (hh : w'.heap = w.heap.push O) (h2 : w'.os = w.os) (h3 : w'.output = w.output) (h4 : w'.tape = w.tape) (hown : ob.own = true)
    (hO : ORel S (i.upd b (w.heap.size, tot)) tot ob (some O)) : Rel S F (i.upd b (w.heap.size, tot)) (updG G b ob) m w' := by
  have old : ∀ k, k < w.heap.size → w'.heap[k]? = w.heap[k]? := by
    intro k hk; rw [hh, Array.getElem?_push]; rw [if_neg (by omega)]
  have new : w'.heap[w.heap.size]? = some O := by rw [hh, Array.getElem?_push]; simp
  have lt : ∀ {d o c}, G d = some o → o.live = true → i d = some c → c.1 < w.heap.size := fun h1 h2 h3 => R.lt_size h1 h2 h3
  have frlt : ∀ {c o}, F.blocks c = some o → c < w.heap.size := fun h => (Array.getElem?_eq_some_iff.1 (R.keep _ _ h)).1
  refine { objs := ?_, inj := ?_, fresh := ?_, keep := ?_, apart := ?_, roFr := ?_, os := by rw [h2, R.os], output := by rw [h3, R.output], tape := by rw [h4, R.tape] }
  · intro d o hd ho
    unfold updG at hd
    split at hd
    · rename_i e
      subst e
      simp only [Option.some.injEq] at hd; subst hd
      exact ⟨_, Emb.upd_same _ _ _, by rw [new]; exact hO⟩
    · rename_i e
      obtain ⟨c, hc, hr⟩ := R.objs d o hd ho
      refine ⟨c, Emb.le_upd hb _ _ _ hc, ?_⟩
      rw [old _ (lt hd ho hc)]
      exact hr.mono (Emb.le_upd hb _)
  · intro d d' o o' c c' hd hd' ho ho' hc hc' e
    unfold updG at hd hd'
    unfold Emb.upd at hc hc'
    by_cases e1 : d = b <;> by_cases e2 : d' = b
    · rw [e1, e2]
    · rw [if_pos e1] at hc; rw [if_neg e2] at hc' hd'
      simp only [Option.some.injEq] at hc; subst hc
      have := lt hd' (AObj.own_live ho') hc'
      simp only at e; omega
    · rw [if_neg e1] at hc hd; rw [if_pos e2] at hc'
      simp only [Option.some.injEq] at hc'; subst hc'
      have := lt hd (AObj.own_live ho) hc
      simp only at e; omega
    · rw [if_neg e1] at hc hd; rw [if_neg e2] at hc' hd'
      exact R.inj d d' o o' c c' hd hd' ho ho' hc hc' e
  · intro d hd
    have : d ≠ b := by omega
    unfold updG Emb.upd
    rw [if_neg this, if_neg this]
    exact R.fresh d (by omega)
  · intro c o hc
    rw [old _ (frlt hc)]
    exact R.keep c o hc
  · intro d o c hd ho hc
    unfold updG at hd
    unfold Emb.upd at hc
    by_cases e1 : d = b
    · rw [if_pos e1] at hc
      simp only [Option.some.injEq] at hc; subst hc
      cases hf : F.blocks w.heap.size with
      | none => rfl
      | some x => exact absurd (frlt hf) (by omega)
    · rw [if_neg e1] at hc hd
      exact R.apart d o c hd ho hc
  · intro d cs c hd hc
    unfold updG at hd
    unfold Emb.upd at hc
    by_cases e1 : d = b
    · rw [if_pos e1] at hd
      simp only [Option.some.injEq] at hd; subst hd
      simp [AObj.own] at hown
    · rw [if_neg e1] at hc hd
      exact R.roFr d cs c hd hc

/-- A block that is written to. -/
theorem Rel.write (R : Rel S F i G n w) {b : Nat} {o ob : AObj} {c : Nat × Nat} (hb : G b = some o) (ho : o.own = true) (hc : i b = some c) (hown : ob.own = true)
    (h1 : ORel S i c.2 ob w'.heap[c.1]?) (h0 : ∀ k, k ≠ c.1 → w'.heap[k]? = w.heap[k]?)
    (h2 : w'.os = w.os) (h3 : w'.output = w.output) (h4 : w'.tape = w.tape) : Rel S F i (updG G b ob) n w' := by
  have hF := R.apart b o c hb ho hc
  refine { objs := ?_, inj := ?_, fresh := ?_, keep := ?_, apart := ?_, roFr := ?_, os := by rw [h2, R.os], output := by rw [h3, R.output], tape := by rw [h4, R.tape] }
  · intro d x hd hx
    unfold updG at hd
    split at hd
    · rename_i e
      subst e
      simp only [Option.some.injEq] at hd; subst hd
      exact ⟨c, hc, h1⟩
    · rename_i e
      obtain ⟨c', hc', hr⟩ := R.objs d x hd hx
      refine ⟨c', hc', ?_⟩
      have hne : c'.1 ≠ c.1 := by
        intro he
        cases hxo : x.own with
        | true => exact e (R.inj d b x o c' c hd hb hxo ho hc' hc he)
        | false =>
          cases x <;> simp [AObj.own, AObj.live] at hxo hx
          have := F.roIn _ (R.roFr d _ c' hd hc')
          rw [he, hF] at this
          simp at this
      rw [h0 _ hne]
      exact hr
  · intro d d' x x' e e' hd hd' hx hx' he he' heq
    have back : ∀ {d x}, updG G b ob d = some x → x.own = true → ∃ y, G d = some y ∧ y.own = true := by
      intro d x hd hx
      unfold updG at hd
      split at hd
      · rename_i q; subst q; exact ⟨o, hb, ho⟩
      · exact ⟨x, hd, hx⟩
    obtain ⟨y, g1, g2⟩ := back hd hx
    obtain ⟨y', g1', g2'⟩ := back hd' hx'
    exact R.inj d d' y y' e e' g1 g1' g2 g2' he he' heq
  · intro d hd
    have hne : d ≠ b := by rintro rfl; rw [(R.fresh d hd).2] at hb; cases hb
    unfold updG
    rw [if_neg hne]
    exact R.fresh d hd
  · intro k x hk
    have hne : k ≠ c.1 := by rintro rfl; rw [hF] at hk; cases hk
    rw [h0 k hne]
    exact R.keep k x hk
  · intro d x e hd hx he
    unfold updG at hd
    split at hd
    · rename_i q
      subst q
      rw [hc] at he; cases he
      exact hF
    · exact R.apart d x e hd hx he
  · intro d cs e hd he
    unfold updG at hd
    split at hd
    · simp only [Option.some.injEq] at hd; subst hd; simp [AObj.own] at hown
    · exact R.roFr d cs e hd he

/-- A block that is not asked for any more. -/
theorem Rel.kill (R : Rel S F i G n w) {b : Nat} {o : AObj} (hb : G b = some o) : Rel S F i (updG G b .dead) n w := by
  refine { R with objs := ?_, inj := ?_, fresh := ?_, apart := ?_, roFr := ?_ }
  · intro d x hd hx
    unfold updG at hd
    split at hd
    · simp only [Option.some.injEq] at hd; subst hd; simp [AObj.live] at hx
    · exact R.objs d x hd hx
  · intro d d' x x' e e' hd hd' hx hx' he he' heq
    unfold updG at hd hd'
    split at hd
    · simp only [Option.some.injEq] at hd; subst hd; simp [AObj.own] at hx
    · split at hd'
      · simp only [Option.some.injEq] at hd'; subst hd'; simp [AObj.own] at hx'
      · exact R.inj d d' x x' e e' hd hd' hx hx' he he' heq
  · intro d hd
    have hne : d ≠ b := by rintro rfl; rw [(R.fresh d hd).2] at hb; cases hb
    unfold updG
    rw [if_neg hne]
    exact R.fresh d hd
  · intro d x e hd hx he
    unfold updG at hd
    split at hd
    · simp only [Option.some.injEq] at hd; subst hd; simp [AObj.own] at hx
    · exact R.apart d x e hd hx he
  · intro d cs e hd he
    unfold updG at hd
    split at hd
    · simp at hd
    · exact R.roFr d cs e hd he

end
end
end Go.Ev
