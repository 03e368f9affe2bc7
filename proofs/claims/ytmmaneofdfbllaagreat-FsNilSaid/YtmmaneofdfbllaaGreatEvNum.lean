/-
  EvNum: the numbers' operations. No condition.
-/
import Derived.Test.YtmmaneofdfbllaaGreatEvRel
import GoSem.Dispatch
set_option linter.unusedVariables false
set_option linter.unusedSimpArgs false
set_option linter.unusedSectionVars false
namespace Go.Ev
theorem kmod_eq (k : IntKind) : (kmod k : Int) = 2 ^ k.bits := by cases k <;> rfl
theorem kbits_eq (k : IntKind) : kbits k = k.bits := by cases k <;> rfl
theorem kmod_nat (k : IntKind) : kmod k = 2 ^ k.bits := by cases k <;> rfl
theorem kmod_pos (k : IntKind) : 0 < kmod k := by cases k <;> decide
theorem kidx_inj {j k : IntKind} (h : kidx j = kidx k) : j = k := by cases j <;> cases k <;> simp_all [kidx]

theorem low_lt (k : IntKind) (n : Int) : low k n < kmod k := by
  have hp := kmod_pos k
  cases n with
  | ofNat a => exact Nat.mod_lt _ hp
  | negSucc a => simp only [low]; omega
theorem low_eq (k : IntKind) (n : Int) : (low k n : Int) = n % (2 ^ k.bits : Int) := by
  rw [← kmod_eq]
  have hp := kmod_pos k
  cases n with
  | ofNat a => simp [low]
  | negSucc a =>
    simp only [low]
    have h1 : a % kmod k < kmod k := Nat.mod_lt _ hp
    rw [Int.negSucc_emod _ (by omega)]
    rw [← Int.natCast_emod]
    omega
theorem sgn_eq (k : IntKind) (a : Nat) (h : a < kmod k) : sgn k a = k.wrap (a : Int) := by
  unfold sgn
  rw [cond_blt]
  cases k <;> simp only [khalf, kmod, IntKind.wrap, IntKind.bits, IntKind.signed] at * <;> simp <;> omega
theorem wr_eq (k : IntKind) (n : Int) : wr k n = k.wrap n := by
  unfold wr
  rw [sgn_eq k _ (low_lt k n), low_eq]
  unfold IntKind.wrap
  simp
theorem wrap_low (k : IntKind) (n : Int) : k.wrap (low k n : Int) = k.wrap n := by
  rw [← sgn_eq k _ (low_lt k n)]; exact wr_eq k n

theorem iadd_eq (a b : Int) : iadd a b = a + b := by
  cases a <;> cases b <;> rfl
theorem ile_eq (a b : Int) : ile a b = decide (a ≤ b) := by
  cases a <;> cases b <;> simp only [ile, ble_nat] <;> (rw [Bool.eq_iff_iff]; simp) <;> omega
theorem ilt_eq (a b : Int) : ilt a b = decide (a < b) := by
  cases a <;> cases b <;> simp only [ilt, blt_nat] <;> (rw [Bool.eq_iff_iff]; simp) <;> omega
theorem ieq_eq (a b : Int) : ieq a b = (a == b) := by
  cases a <;> cases b <;> simp only [ieq, beq_nat] <;> (rw [Bool.eq_iff_iff]; simp) <;> omega

theorem toNat_ofInt (k : IntKind) (x : Int) : (BitVec.ofInt k.bits x).toNat = low k x := by
  rw [BitVec.toNat_ofInt]
  have := low_eq k x
  have e : ((2 ^ k.bits : Nat) : Int) = (2 : Int) ^ k.bits := by simp
  rw [e]
  omega
theorem land_lt (k : IntKind) (x y : Int) : Nat.land (low k x) (low k y) < kmod k := by
  have := (BitVec.ofInt k.bits x &&& BitVec.ofInt k.bits y).isLt
  rw [BitVec.toNat_and, toNat_ofInt, toNat_ofInt] at this
  rw [kmod_nat]; exact this
theorem lor_lt (k : IntKind) (x y : Int) : Nat.lor (low k x) (low k y) < kmod k := by
  have := (BitVec.ofInt k.bits x ||| BitVec.ofInt k.bits y).isLt
  rw [BitVec.toNat_or, toNat_ofInt, toNat_ofInt] at this
  rw [kmod_nat]; exact this
theorem xor_lt (k : IntKind) (x y : Int) : Nat.xor (low k x) (low k y) < kmod k := by
  have := (BitVec.ofInt k.bits x ^^^ BitVec.ofInt k.bits y).isLt
  rw [BitVec.toNat_xor, toNat_ofInt, toNat_ofInt] at this
  rw [kmod_nat]; exact this

section
variable {P : Program} (w : World)
theorem run_intBits_and (k : IntKind) (x y : Int) : (Op.intBits .and k x y).run P w = .ok (.int k (sgn k (Nat.land (low k x) (low k y)))) w := by
  simp only [Op.intBits, Sem.run_pure]
  rw [BitVec.toNat_and, toNat_ofInt, toNat_ofInt, sgn_eq k _ (land_lt k x y)]; rfl
theorem run_intBits_or (k : IntKind) (x y : Int) : (Op.intBits .or k x y).run P w = .ok (.int k (sgn k (Nat.lor (low k x) (low k y)))) w := by
  simp only [Op.intBits, Sem.run_pure]
  rw [BitVec.toNat_or, toNat_ofInt, toNat_ofInt, sgn_eq k _ (lor_lt k x y)]; rfl
theorem run_intBits_xor (k : IntKind) (x y : Int) : (Op.intBits .xor k x y).run P w = .ok (.int k (sgn k (Nat.xor (low k x) (low k y)))) w := by
  simp only [Op.intBits, Sem.run_pure]
  rw [BitVec.toNat_xor, toNat_ofInt, toNat_ofInt, sgn_eq k _ (xor_lt k x y)]; rfl
theorem low_ones (k : IntKind) : low k (if k.signed then -1 else k.max) = kmod k - 1 := by
  cases k <;> rfl
end

/-- The value of an operation on two numbers. -/
theorem intOp_ok {P : Program} (w : World) {op : BinOp} {k : IntKind} {x y : Int} {v : AV} (h : intOp op k x y = some v) (hs : op ≠ .shl) (hr : op ≠ .shr)
    (t : TypeId) : ∃ u, (binOp op t (.int k x) (.int k y)).run P w = .ok u w ∧ ∀ i, VRel i v u := by
  cases op <;> simp only [intOp, cmpOp, Option.some.injEq, reduceCtorEq] at h <;> simp only [binOp, ne_eq, not_true_eq_false, if_false]
  case add => subst h; exact ⟨_, rfl, fun i => by simp only [VRel, wr_eq, iadd_eq]⟩
  case sub => subst h; exact ⟨_, rfl, fun i => by simp only [VRel, wr_eq]⟩
  case mul => subst h; exact ⟨_, rfl, fun i => by simp only [VRel, wr_eq]⟩
  case quo =>
    rw [ieq_eq] at h
    by_cases hy : y = 0
    · simp [hy] at h
    · have hb : (y == 0) = false := by simpa using hy
      rw [hb] at h
      simp only [cond_false, Option.some.injEq] at h
      subst h
      exact ⟨.int k (k.wrap (x.tdiv y)), by simp [Op.intDiv, hy], fun i => by simp only [VRel, wr_eq]⟩
  case rem =>
    rw [ieq_eq] at h
    by_cases hy : y = 0
    · simp [hy] at h
    · have hb : (y == 0) = false := by simpa using hy
      rw [hb] at h
      simp only [cond_false, Option.some.injEq] at h
      subst h
      exact ⟨.int k (x.tmod y), by simp [Op.intDiv, hy], fun i => by simp only [VRel]⟩
  case and => subst h; exact ⟨_, run_intBits_and w k x y, fun i => by simp only [VRel]⟩
  case or => subst h; exact ⟨_, run_intBits_or w k x y, fun i => by simp only [VRel]⟩
  case xor => subst h; exact ⟨_, run_intBits_xor w k x y, fun i => by simp only [VRel]⟩
  case eql => subst h; exact ⟨_, rfl, fun i => by simp only [VRel, ieq_eq]⟩
  case neq => subst h; exact ⟨_, rfl, fun i => by simp only [VRel, ieq_eq]; rfl⟩
  case lss => subst h; exact ⟨_, rfl, fun i => by simp only [VRel, ilt_eq]⟩
  case leq => subst h; exact ⟨_, rfl, fun i => by simp only [VRel, ile_eq]⟩
  case gtr => subst h; exact ⟨_, rfl, fun i => by simp only [VRel, ilt_eq]⟩
  case geq => subst h; exact ⟨_, rfl, fun i => by simp only [VRel, ile_eq]⟩

theorem shift_ok {P : Program} (w : World) {op : BinOp} {k yk : IntKind} {x y : Int} {v : AV} (h : shiftOp op k x y = some v) (ho : op = .shl ∨ op = .shr)
    (t : TypeId) : ∃ u, (binOp op t (.int k x) (.int yk y)).run P w = .ok u w ∧ ∀ i, VRel i v u := by
  unfold shiftOp at h
  rw [ilt_eq, cond_dec] at h
  by_cases hy : y < 0
  · simp [hy] at h
  · rw [if_neg hy] at h
    simp only [kbits_eq] at h
    rcases ho with rfl | rfl
    · simp only [Option.some.injEq] at h
      subst h
      refine ⟨.int k (k.wrap (x * 2 ^ (min y.toNat k.bits))), by simp [binOp, Op.shift, hy], fun i => ?_⟩
      simp only [VRel, wr_eq]
      congr 3
    · cases x with
      | ofNat a =>
        simp only [Option.some.injEq] at h
        subst h
        refine ⟨.int k ((Int.ofNat a).fdiv (2 ^ (min y.toNat k.bits))), by simp [binOp, Op.shift, hy], fun i => ?_⟩
        simp only [VRel]
        congr 1
        have : (2 ^ (min y.toNat k.bits) : Int) = ((2 ^ (min y.toNat k.bits) : Nat) : Int) := by simp
        rw [this]
        simp only [Int.ofNat_eq_natCast]
        rw [Int.fdiv_eq_ediv_of_nonneg _ (Int.natCast_nonneg _), ← Int.natCast_ediv]
        exact congrArg _ (Nat.shiftRight_eq_div_pow a _).symm
      | negSucc a =>
        simp only [Option.some.injEq] at h
        subst h
        refine ⟨.int k ((Int.negSucc a).fdiv (2 ^ (min y.toNat k.bits))), by simp [binOp, Op.shift, hy], fun i => ?_⟩
        simp only [VRel]
        congr 2
end Go.Ev
