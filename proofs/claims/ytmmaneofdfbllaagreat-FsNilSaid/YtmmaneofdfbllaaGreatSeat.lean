/-
  Seat: the seat's context: its summaries and its facts. No condition.
-/
import Derived.Test.YtmmaneofdfbllaaGreatProg
import Derived.Test.YtmmaneofdfbllaaGreatEvFns
import Derived.KernelRfl
import Derived.Test.YtmmaneofdfbllaaGreatEvMemo
import Derived.Laws.Externs
set_option linter.unusedVariables false
set_option linter.unusedSimpArgs false
set_option linter.unusedSectionVars false
namespace Go.Ev
noncomputable section
open Go.Proofs
def nm (f l : Nat) : String :=
  bif f.beq 64 then "F64L3" else bif f.beq 121 then (bif l.beq 1 then "F121L1" else "F121L3") else bif f.beq 136 then "F136L0" else bif f.beq 186 then "F186L0"
  else bif f.beq 187 then "F187L0" else bif f.beq 193 then "F193L0" else bif f.beq 203 then "F203L0" else bif f.beq 239 then "F239L0" else "F260L2"
def nr (f _ : Nat) : String × String :=
  bif f.beq 10 then ("R10A", "R10B") else bif f.beq 26 then ("R26A", "R26B") else bif f.beq 81 then ("R81A", "R81B") else bif f.beq 84 then ("R84A", "R84B") else bif f.beq 85 then ("R85A", "R85B") else bif f.beq 91 then ("R91A", "R91B") else bif f.beq 108 then ("R108A", "R108B") else bif f.beq 110 then ("R110A", "R110B") else bif f.beq 136 then ("R136A", "R136B") else bif f.beq 139 then ("R139A", "R139B") else bif f.beq 166 then ("R166A", "R166B") else bif f.beq 185 then ("R185A", "R185B") else bif f.beq 202 then ("R202A", "R202B") else bif f.beq 218 then ("R218A", "R218B") else bif f.beq 240 then ("R240A", "R240B") else bif f.beq 268 then ("R268A", "R268B") else ("RA", "RB")
def cutFns : List Nat := [10, 26, 64, 81, 84, 85, 91, 108, 110, 121, 136, 139, 166, 185, 186, 187, 193, 202, 203, 218, 239, 240, 260, 268]
noncomputable def T : Names := tabOf Tryz.prog nm nr cutFns
def crcBit (r : Nat) : Nat → Nat
  | 0 => r
  | n + 1 => crcBit (bif (Nat.mod r 2).beq 1 then Nat.xor (Nat.div r 2) 3988292384 else Nat.div r 2) n
def crcBytes (r : Nat) : List Nat → Nat
  | [] => r
  | b :: l => crcBytes (crcBit (Nat.xor r b) 8) l
def crcMore (s : Nat) (l : List Nat) : Nat := Nat.xor (crcBytes (Nat.xor s 4294967295) l) 4294967295
def bytesAt (h : Heap) : AV → Option (List Nat)
  | .nilsl | .emp => some []
  | .sl b o n _ =>
    bif n.blt 1000000 then
      match rowAt h b o n with
      | some l => bytesOf l
      | none => none
    else none
  | _ => none
def crcSum (_ : Job → Option Out) (args : List AV) (h : Heap) : Option (AV × Heap) :=
  match args with
  | [.int .u32 (.ofNat s), x] =>
    match bytesAt h x with
    | some l => bif s.blt 4294967296 then some (.int .u32 (.ofNat (crcMore s l)), h) else none
    | none => none
  | _ => none
def onesSum (_ : Job → Option Out) (args : List AV) (h : Heap) : Option (AV × Heap) :=
  match args with
  | [.int .i64 (.ofNat n)] => bif n.blt 1000000 then some (.sl h.next 0 n (.ex n), h.add (.cells (rep [.int .u8 (.ofNat 255)] n))) else none
  | _ => none
def all255 : List Nat → Bool
  | [] => true
  | a :: l => bif a.beq 255 then all255 l else false
def erasedSum (_ : Job → Option Out) (args : List AV) (h : Heap) : Option (AV × Heap) :=
  match args with
  | [x] =>
    match bytesAt h x with
    | some l => some (.bool (all255 l), h)
    | none => none
  | _ => none
def findByte (n : Nat) : List Nat → Nat → Int
  | [], _ => -1
  | a :: l, i => bif a.beq n then .ofNat i else findByte n l (i + 1)
def indexSum (_ : Job → Option Out) (args : List AV) (h : Heap) : Option (AV × Heap) :=
  match args with
  | [.str s, .int .u8 (.ofNat n)] => bif n.blt 256 then some (.int .i64 (findByte n s 0), h) else none
  | _ => none
def sumsOf (f : FuncId) : Option ((Job → Option Out) → List AV → Heap → Option (AV × Heap)) :=
  bif Nat.beq f 281 then some crcSum else bif Nat.beq f 243 then some onesSum else bif Nat.beq f 245 then some erasedSum else bif Nat.beq f 346 then some indexSum else none
noncomputable def C : Ctx := { P := Tryz.prog, info := Tryz.prog.info?, fn := fnsOf Tryz.prog nm nr, sums := sumsOf, csum := csumOf T, cname := cnameOf nm nr T }
def geo : AV := .agg [.int .i64 16, .int .i64 8, .int .i64 64]
def isV : Option Out → Bool
  | some (.val _ _) => true
  | _ => false
def ptrOf : Option Out → Option AV
  | some (.val (.tup (v :: _)) _) => some v
  | _ => none
def hpOf : Option Out → Heap
  | some (.val _ h) => h
  | _ => { next := 0, objs := .leaf }
end
end Go.Ev
namespace Go.Ev
open Go.Proofs
noncomputable def C0 : Ctx := { P := Tryz.prog, info := Tryz.prog.info?, fn := fnsOf Tryz.prog nm nr, sums := fun _ => none, csum := csumOf T, cname := cnameOf nm nr T }
theorem fn245 : C0.fn 245 = some Tryz.f245 := by kernel_rfl
theorem fn243 : C0.fn 243 = some Tryz.f243 := by kernel_rfl
theorem fn281 : C0.fn 281 = some Tryz.f281 := by kernel_rfl
theorem fn316 : C0.fn 316 = some Tryz.f316 := by kernel_rfl
theorem und22 : C0.und 22 = some (.slice 5) := by kernel_rfl
theorem size5 : C0.size 5 = some 1 := by kernel_rfl
theorem agg5 : C0.isAgg 5 = some false := by kernel_rfl
end Go.Ev
namespace Go.Ev
open Go.Proofs

/-- A bit's step. -/
theorem crc_odd {r : Nat} (hr : r < 4294967296) : ieq (sgn .u32 (low .u32 (Int.ofNat r) &&& low .u32 1)) 1 = (Nat.mod r 2).beq 1 := by
  rw [low_u32 hr, show low .u32 1 = 1 from rfl, Nat.and_one_is_mod r, sgn_u32 (by omega)]
  rfl
theorem crc_half (r : Nat) : Nat.shiftRight r (Nat.min 1 (kbits .u32)) = Nat.div r 2 := rfl
theorem xor32_lt {a b : Nat} (ha : a < 4294967296) (hb : b < 4294967296) : Nat.xor a b < 4294967296 := Nat.xor_lt_two_pow (n := 32) ha hb
theorem div2_lt {r : Nat} (hr : r < 4294967296) : Nat.div r 2 < 4294967296 := Nat.lt_of_le_of_lt (Nat.div_le_self r 2) hr
theorem crc_xor {r : Nat} (hr : r < 4294967296) : sgn .u32 (low .u32 (Int.ofNat (Nat.div r 2)) ^^^ low .u32 3988292384) = .ofNat (Nat.div r 2 ^^^ 3988292384) := by
  rw [low_u32 (div2_lt hr), show low .u32 3988292384 = 3988292384 from rfl]
  exact sgn_u32 (xor32_lt (div2_lt hr) (b := 3988292384) (by decide))
def bit1 (r : Nat) : Nat := bif (Nat.mod r 2).beq 1 then Nat.xor (Nat.div r 2) 3988292384 else Nat.div r 2
theorem bit1_lt {r : Nat} (hr : r < 4294967296) : bit1 r < 4294967296 := by
  unfold bit1
  cases (Nat.mod r 2).beq 1 with
  | true => exact xor32_lt (div2_lt hr) (by decide)
  | false => exact div2_lt hr
noncomputable def body316 : Code := loopBody Tryz.f316
theorem put_round (rec : Job → Option Out) (e : Env) (h : Heap) (r i : Nat) (hn : e.n = 21) (h0 : e.get 0 = .int .u32 (.ofNat r)) (hr : r < 4294967296) (h9 : e.get 9 = .int .i64 (.ofNat i)) (hi : i < 8) :
    ∃ e', (codeF C0 body316).app rec none [] e h = some (.code .normal [] e' h) ∧ e'.get 0 = .int .u32 (.ofNat (bit1 r)) ∧ e'.get 9 = .int .i64 (.ofNat (i + 1)) ∧ e'.n = 21 := by
  simp only [body316, loopBody, Tryz.f316, fstLoop]
  have hlt : ilt (Int.ofNat i) 8 = true := by show Nat.blt i 8 = true; rw [blt_nat]; simpa using hi
  have hwr : wr .i64 (iadd (Int.ofNat i) 1) = .ofNat (i + 1) := wr_i64 (n := i + 1) (by omega)
  have hsh : ∀ (a : Nat), binOf C0 .shr 198 (some (.int .u32 (Int.ofNat a))) (some (.int .u64 1)) = some (.int .u32 (.ofNat (Nat.div a 2))) := fun a => by
    rw [← crc_half a]; exact bin_shr 198 .u32 .u64 a 1
  cases hb : (Nat.mod r 2).beq 1 with
  | true =>
    simp [cF_seq, cF_region, cF_cond, cF_block, cF_skip, cF_exit, oF_cons, oF_nil, opEval, opd_tmp, opdU_tmp, opd_int, h9, known_int, known_bool, bin_lss, asVal_eq, contR_val, put_some, seqK_normal, hlt, Env.get_set, Env.n_set, hn, condK_true, h0, bin_and, bin_eql, bin_add, bin_xor, -Int.ofNat_eq_natCast, crc_odd hr, hb, hsh, crc_xor hr, blockK_normal, hwr, bit1]
  | false =>
    simp [cF_seq, cF_region, cF_cond, cF_block, cF_skip, cF_exit, oF_cons, oF_nil, opEval, opd_tmp, opdU_tmp, opd_int, h9, known_int, known_bool, bin_lss, asVal_eq, contR_val, put_some, seqK_normal, hlt, Env.get_set, Env.n_set, hn, condK_true, condK_false, h0, bin_and, bin_eql, bin_add, bin_xor, -Int.ofNat_eq_natCast, crc_odd hr, hb, hsh, crc_xor hr, blockK_normal, hwr, bit1]
theorem put_end (rec : Job → Option Out) (e : Env) (h : Heap) (hn : e.n = 21) (h9 : e.get 9 = .int .i64 (.ofNat 8)) :
    (codeF C0 body316).app rec none [] e h = some (.code (.exit 0) [] (e.set 10 (.bool false)) h) := by
  simp only [body316, loopBody, Tryz.f316, fstLoop]
  have hlt : ilt 8 8 = false := rfl
  simp [cF_seq, cF_region, cF_cond, cF_block, cF_skip, cF_exit, oF_cons, oF_nil, opEval, opd_tmp, opdU_tmp, opd_int, h9, known_int, known_bool, bin_lss, asVal_eq, contR_val, put_some, seqK_normal, seqK_exit, hlt, Env.get_set, Env.n_set, hn, condK_false, -Int.ofNat_eq_natCast]
theorem put_loop (h : Heap) : ∀ (k m : Nat), k ≤ m → k ≤ 8 → ∀ (e : Env) (r : Nat), e.n = 21 → r < 4294967296 → e.get 0 = .int .u32 (.ofNat r) → e.get 9 = .int .i64 (.ofNat (8 - k)) →
    ∃ e', (codeF C0 (.loop body316)).app (fast C0 m) none [] e h = some (.code (.exit 0) [] e' h) ∧ e'.get 0 = .int .u32 (.ofNat (crcBit r k)) ∧ e'.n = 21 := by
  intro k
  induction k with
  | zero =>
    intro m _ _ e r hn hr h0 h9
    refine ⟨e.set 10 (.bool false), ?_, by rw [get_other (by decide), h0]; rfl, by rw [Env.n_set, hn]⟩
    rw [cF_loop, put_end _ e h hn h9]; rfl
  | succ k ih =>
    intro m hm hk e r hn hr h0 h9
    obtain ⟨e', h1, h2, h3, h4⟩ := put_round (fast C0 m) e h r (8 - (k + 1)) hn h0 hr h9 (by omega)
    obtain ⟨m, rfl⟩ : ∃ m', m = m' + 1 := ⟨m - 1, by omega⟩
    obtain ⟨e2, g1, g2, g3⟩ := ih m (by omega) (by omega) e' (bit1 r) h4 (bit1_lt hr) h2 (by rw [h3]; congr 2; omega)
    refine ⟨e2, ?_, g2, g3⟩
    rw [cF_loop, h1, seqK_normal]
    exact g1

theorem after_loop {fn : Func} {k : List Nat → Env → Heap → Option Out} {id : Nat} {X : Option Out} {out : Option Out} {h : Heap} {Q : Env → Prop} (hX : ∃ e', X = some (.code (.exit id) [] e' h) ∧ Q e')
    (hk : ∀ e', Q e' → leave C0 fn (k [] e' h) = out) : leave C0 fn (seqK k (blockK id X)) = out := by
  obtain ⟨e', rfl, hq⟩ := hX
  rw [blockK_exit, beq_nat, decide_eq_true rfl, cond_true, seqK_normal]
  exact hk e' hq
theorem start1 (a : AV) (n : Nat) (hn : 1 ≤ n) : ∃ e : Env, ({ n := [a].length + (n - [a].length), t := setArgs [a] 0 .leaf } : Env) = e ∧ e.n = n ∧ e.get 0 = a :=
  ⟨_, rfl, by simp; omega, by simp [Env.get, setArgs, Tr.get_put]⟩
theorem start2 (a b : AV) (n : Nat) (hn : 2 ≤ n) : ∃ e : Env, ({ n := [a, b].length + (n - [a, b].length), t := setArgs [a, b] 0 .leaf } : Env) = e ∧ e.n = n ∧ e.get 0 = a ∧ e.get 1 = b :=
  ⟨_, rfl, by simp; omega, by simp [Env.get, setArgs, Tr.get_put], by simp [Env.get, setArgs, Tr.get_put]⟩
theorem call_body {f : FuncId} {fn : Func} {c : Code} (hf : C0.fn f = some fn) (hc : fn.body = some c) (m : Nat) (args : List AV) (h : Heap) :
    fast C0 (m + 2) (.call f args h) = leave C0 fn ((codeF C0 c).app (fast C0 m) none [] { n := args.length + (fn.ntmps - args.length), t := setArgs args 0 .leaf } h) := by
  show bodyRun C0 (fast C0 (m + 1)) f args h = _
  unfold bodyRun
  rw [hf]
  simp only [hc]
  rfl
theorem leave_ret {fn : Func} {e : Env} {h : Heap} {t : Nat} {v : AV} (hr : fn.results = #[.tmp t]) (hv : e.get t = v) : leave C0 fn (some (.code .ret [] e h)) = some (.val v h) := by
  unfold leave
  simp only [shut, hr, resultsAV, resultAV, hv, tupled]

theorem und198 : C0.und 198 = some (.int .u32) := by kernel_rfl
theorem und5 : C0.und 5 = some (.int .u8) := by kernel_rfl
theorem crc_first {r b : Nat} (hr : r < 4294967296) (hb : b < 256) : sgn .u32 (low .u32 (Int.ofNat r) ^^^ low .u32 (wr .u32 (Int.ofNat b))) = .ofNat (r ^^^ b) := by
  have hb' : b < 4294967296 := by omega
  have : wr .u32 (Int.ofNat b) = Int.ofNat b := by unfold wr; rw [low_u32 hb', sgn_u32 hb']
  rw [this, low_u32 hr, low_u32 hb']
  exact sgn_u32 (xor32_lt hr hb')
theorem put_call (h : Heap) (r b : Nat) (hr : r < 4294967296) (hb : b < 256) (m : Nat) (hm : 8 ≤ m) :
    fast C0 (m + 2) (.call 316 [.int .u32 (.ofNat r), .int .u8 (.ofNat b)] h) = some (.val (.int .u32 (.ofNat (crcBit (Nat.xor r b) 8))) h) := by
  have hx : r ^^^ b < 4294967296 := xor32_lt hr (by omega)
  rw [call_body (c := (Tryz.f316.body.getD .skip)) fn316 rfl]
  obtain ⟨e0, he, hn, h0, h1⟩ := start2 (.int .u32 (.ofNat r)) (.int .u8 (.ofNat b)) Tryz.f316.ntmps (by decide)
  rw [he]
  clear he
  have hn : e0.n = 21 := hn
  have hlp := put_loop h 8 m hm (Nat.le_refl _)
  simp only [body316, loopBody, Tryz.f316, fstLoop] at hlp
  simp only [Tryz.f316, Option.getD_some]
  simp only [cF_seq, cF_region, cF_block, oF_cons, oF_nil, opEval, opd_tmp, opdU_tmp, opd_int, opdU_int, asVal_eq, contR_val, put_some, seqK_normal, Env.get_set, Env.n_set, hn, h0, h1, known_int, convertR, und198, und5, convAV, bin_xor]
  refine after_loop (Q := fun e' => e'.get 0 = .int .u32 (.ofNat (crcBit (r ^^^ b) 8)) ∧ e'.n = 21) (hlp _ (r ^^^ b) ?_ hx ?_ ?_) fun e' hq => ?_
  · simp [hn]
  · simp [hn, Env.get_set, -Int.ofNat_eq_natCast, crc_first hr hb]
  · simp [hn, Env.get_set]
  · obtain ⟨q1, q2⟩ := hq
    simp only [cF_seq, cF_region, cF_ret, oF_cons, oF_nil, opEval, opdU_tmp, asVal_eq, contR_val, put_some, seqK_normal, Env.get_set, Env.n_set, q2, q1]
    exact leave_ret rfl (by simp [q2, q1, Env.get_set, -Int.ofNat_eq_natCast])
end Go.Ev
namespace Go.Ev
open Go.Proofs
set_option linter.unusedSimpArgs false

/-- A slice of bytes, as a loop over it sees it. -/
structure Row (h : Heap) (x : AV) (l : List Nat) : Prop where
  known : x.known = some x
  small : l.length < 4611686018427387904
  len : lenAV h (some (.slice 5)) (some [x]) = some (.int .i64 (.ofNat l.length))
  at' : ∀ i (hi : i < l.length), ∃ b o, indexAddrAV C0 (some x) (some (.int .i64 (.ofNat i))) (some (.slice 5)) = some (.ptr b o) ∧ loadOf C0 h 5 (some (.ptr b o)) = some (.int .u8 (.ofNat l[i]))
  byte : ∀ i (hi : i < l.length), l[i] < 256
theorem bytesOf_ok : ∀ {cs : List AV} {l : List Nat}, bytesOf cs = some l → l.length = cs.length ∧ ∀ i (hi : i < l.length), cs[i]? = some (.int .u8 (.ofNat l[i])) ∧ l[i] < 256
  | [], l, h => by simp only [bytesOf, Option.some.injEq] at h; subst h; simp
  | a :: cs, l, h => by
    unfold bytesOf at h
    split at h
    · simp_all
    · rename_i n cs' heq
      simp only [List.cons.injEq] at heq
      obtain ⟨rfl, rfl⟩ := heq
      split at h
      · rename_i r hr
        rw [cond_blt] at h
        split at h
        · rename_i hn
          simp only [Option.some.injEq] at h; subst h
          obtain ⟨h1, h2⟩ := bytesOf_ok hr
          refine ⟨by simp [h1], fun i hi => ?_⟩
          cases i with
          | zero => simp [hn]
          | succ i => simpa using h2 i (by simpa using hi)
        · cases h
      · cases h
    · cases h
theorem rowOf_bytes {h : Heap} {x : AV} {l : List Nat} (hx : bytesAt h x = some l) : Row h x l := by
  unfold bytesAt at hx
  split at hx
  · simp only [Option.some.injEq] at hx; subst hx
    exact ⟨rfl, by simp, rfl, fun i hi => by simp at hi, fun i hi => by simp at hi⟩
  · simp only [Option.some.injEq] at hx; subst hx
    exact ⟨rfl, by simp, rfl, fun i hi => by simp at hi, fun i hi => by simp at hi⟩
  · rename_i b o n c
    rw [cond_blt] at hx
    split at hx
    rotate_left
    · cases hx
    rename_i hsm
    split at hx
    · rename_i row hrow
      unfold rowAt at hrow
      split at hrow
      · rename_i ob hob
        split at hrow
        · rename_i cs hcs
          rw [cut_eq] at hrow
          split at hrow
          · rename_i hle
            simp only [Option.some.injEq] at hrow; subst hrow
            obtain ⟨h1, h2⟩ := bytesOf_ok hx
            have hln : l.length = n := by rw [h1]; simp; omega
            refine ⟨rfl, by omega, by rw [hln]; rfl, fun i hi => ⟨b, o + i * 1, ?_, ?_⟩, fun i hi => (h2 i hi).2⟩
            · simp only [indexAddrAV, size5]
              rw [cond_blt, if_pos (by omega)]
            · simp only [loadOf, loadAV, hob, hcs, part, agg5, nth_eq]
              have := (h2 i hi).1
              rw [List.getElem?_take, if_pos (by omega), List.getElem?_drop] at this
              simpa using this
          · cases hrow
        · cases hrow
      · cases hrow
    · cases hx
  · cases hx

noncomputable def body281 : Code := loopBody Tryz.f281
theorem more_round {h : Heap} {x : AV} {l : List Nat} (R : Row h x l) (m : Nat) (hm : 10 ≤ m) (e : Env) (r i : Nat) (hn : e.n = 22) (h5 : e.get 5 = .int .u32 (.ofNat r)) (hr : r < 4294967296)
    (h10 : e.get 10 = x) (h11 : e.get 11 = .int .i64 (.ofNat l.length)) (h12 : e.get 12 = .int .i64 (.ofNat i)) (hi : i < l.length) :
    ∃ e', (codeF C0 body281).app (fast C0 m) none [] e h = some (.code .normal [] e' h) ∧ e'.get 5 = .int .u32 (.ofNat (crcBit (Nat.xor r l[i]) 8)) ∧ e'.get 10 = x ∧ e'.get 11 = .int .i64 (.ofNat l.length) ∧ e'.get 12 = .int .i64 (.ofNat (i + 1)) ∧ e'.n = 22 := by
  have hlt : ilt (Int.ofNat i) (Int.ofNat l.length) = true := by show Nat.blt i l.length = true; rw [blt_nat]; simpa using hi
  have hwr : wr .i64 (iadd (Int.ofNat i) 1) = .ofNat (i + 1) := wr_i64 (n := i + 1) (by have := R.small; omega)
  obtain ⟨b, o, ha, hld⟩ := R.at' i hi
  obtain ⟨m, rfl⟩ : ∃ m', m = m' + 2 := ⟨m - 2, by omega⟩
  have hc := put_call h r l[i] hr (R.byte i hi) m (by omega)
  simp only [body281, loopBody, Tryz.f281, fstLoop]
  simp [cF_seq, cF_region, cF_cond, cF_block, cF_skip, cF_exit, oF_cons, oF_nil, opEval, opd_tmp, opdU_tmp, opd_int, opdsU, opd_func, callR, calledR, h10, h11, h12, R.known, known_int, known_bool, bin_lss, asVal_eq, asRd_eq, contR_val, contR_rd, contR_fn, put_some, seqK_normal, hlt, Env.get_set, Env.n_set, hn, condK_true, h5, bin_add, -Int.ofNat_eq_natCast, blockK_normal, hwr, und22, ha, hld, known_ptr, hc, callK_val]
theorem more_end {h : Heap} {l : List Nat} (rec : Job → Option Out) (e : Env) (hn : e.n = 22) (h11 : e.get 11 = .int .i64 (.ofNat l.length)) (h12 : e.get 12 = .int .i64 (.ofNat l.length)) :
    (codeF C0 body281).app rec none [] e h = some (.code (.exit 0) [] (e.set 13 (.bool false)) h) := by
  have hlt : ilt (Int.ofNat l.length) (Int.ofNat l.length) = false := by show Nat.blt l.length l.length = false; rw [blt_nat]; simp
  simp only [body281, loopBody, Tryz.f281, fstLoop]
  simp [cF_seq, cF_region, cF_cond, cF_block, cF_skip, cF_exit, oF_cons, oF_nil, opEval, opd_tmp, opdU_tmp, opd_int, h11, h12, known_int, known_bool, bin_lss, asVal_eq, contR_val, put_some, seqK_normal, seqK_exit, hlt, Env.get_set, Env.n_set, hn, condK_false, -Int.ofNat_eq_natCast]
theorem crcBit_lt : ∀ (k : Nat) {r : Nat}, r < 4294967296 → crcBit r k < 4294967296
  | 0, _, hr => hr
  | k + 1, _, hr => crcBit_lt k (bit1_lt hr)
theorem more_loop {h : Heap} {x : AV} {l : List Nat} (R : Row h x l) : ∀ (k m : Nat), k + 10 ≤ m → k ≤ l.length → ∀ (e : Env) (r : Nat), e.n = 22 → r < 4294967296 → e.get 5 = .int .u32 (.ofNat r) → e.get 10 = x → e.get 11 = .int .i64 (.ofNat l.length) → e.get 12 = .int .i64 (.ofNat (l.length - k)) →
    ∃ e', (codeF C0 (.loop body281)).app (fast C0 m) none [] e h = some (.code (.exit 0) [] e' h) ∧ e'.get 5 = .int .u32 (.ofNat (crcBytes r (l.drop (l.length - k)))) ∧ crcBytes r (l.drop (l.length - k)) < 4294967296 ∧ e'.n = 22 := by
  intro k
  induction k with
  | zero =>
    intro m _ _ e r hn hr h5 h10 h11 h12
    have e0 : l.drop (l.length - 0) = [] := by simp
    refine ⟨e.set 13 (.bool false), ?_, by rw [get_other (by decide), h5, e0]; rfl, by rw [e0]; exact hr, by rw [Env.n_set, hn]⟩
    rw [cF_loop, more_end (l := l) _ e hn h11 (by simpa using h12)]; rfl
  | succ k ih =>
    intro m hm hk e r hn hr h5 h10 h11 h12
    have hi : l.length - (k + 1) < l.length := by omega
    obtain ⟨e', h1, h2, h3, h4, h6, h7⟩ := more_round R m (by omega) e r (l.length - (k + 1)) hn h5 hr h10 h11 h12 hi
    obtain ⟨m, rfl⟩ : ∃ m', m = m' + 1 := ⟨m - 1, by omega⟩
    have hr' : crcBit (Nat.xor r l[l.length - (k + 1)]) 8 < 4294967296 := crcBit_lt 8 (xor32_lt hr (by have := R.byte _ hi; omega))
    obtain ⟨e2, g1, g2, g3, g4⟩ := ih m (by omega) (by omega) e' _ h7 hr' h2 h3 h4 (by rw [h6]; congr 2; omega)
    have hd : l.drop (l.length - (k + 1)) = l[l.length - (k + 1)] :: l.drop (l.length - k) := by
      rw [List.drop_eq_getElem_cons hi, show l.length - (k + 1) + 1 = l.length - k by omega]
    refine ⟨e2, ?_, by rw [g2, hd]; rfl, by rw [hd]; exact g3, g4⟩
    rw [cF_loop, h1, seqK_normal]
    exact g1
theorem not32 {r : Nat} (hr : r < 4294967296) : unOf .xor (some (.int .u32 (Int.ofNat r))) = some (.int .u32 (.ofNat (r ^^^ 4294967295))) := by
  show some (AV.int .u32 (sgn .u32 (Nat.xor 4294967295 (low .u32 (Int.ofNat r))))) = _
  rw [low_u32 hr, sgn_u32 (xor32_lt (by decide) hr), show Nat.xor 4294967295 r = r ^^^ 4294967295 from Nat.xor_comm _ _]
theorem not32_lt {r : Nat} (hr : r < 4294967296) : r ^^^ 4294967295 < 4294967296 := xor32_lt hr (by decide)
theorem opEval_len {h : Heap} {x : AV} {e : Env} {t : Nat} {ts : Array TypeId} (hx : e.get t = x) (hk : x.known = some x) {n : Nat} (hl : lenAV h (some (.slice 5)) (some [x]) = some (.int .i64 (.ofNat n))) (hts : ts = #[22]) :
    opEval C0 e h h (.call { callee := .builtin .len, args := #[.tmp t], argTypes := ts }) = .rd (.int .i64 (.ofNat n)) := by
  subst hts
  simp only [opEval, callR, builtinR, opds, opd_tmp, hx, hk, typeArg, und22]
  rw [hl]; rfl
theorem more_call {h : Heap} {x : AV} {l : List Nat} (R : Row h x l) (s : Nat) (hs : s < 4294967296) (m : Nat) (hm : l.length + 10 ≤ m) :
    fast C0 (m + 2) (.call 281 [.int .u32 (.ofNat s), x] h) = some (.val (.int .u32 (.ofNat (crcMore s l))) h) := by
  rw [call_body (c := (Tryz.f281.body.getD .skip)) fn281 rfl]
  obtain ⟨e0, he, hn, h0, h1⟩ := start2 (.int .u32 (.ofNat s)) x Tryz.f281.ntmps (by decide)
  rw [he]
  clear he
  have hn : e0.n = 22 := hn
  have hr : Tryz.f281.results = #[.tmp 4] := rfl
  have key : ∀ fn : Func, fn.results = #[.tmp 4] → leave C0 fn ((codeF C0 (Tryz.f281.body.getD .skip)).app (fast C0 m) none [] e0 h) = some (.val (.int .u32 (.ofNat (crcMore s l))) h) := by
    intro fn hfn
    have hlp := more_loop R l.length m hm (Nat.le_refl _)
    simp only [body281, loopBody, Tryz.f281, fstLoop] at hlp
    simp only [Tryz.f281, Option.getD_some]
    have hs' := not32_lt hs
    have hnot := not32 hs
    simp [cF_seq, cF_region, cF_block, oF_cons, oF_nil, opEval, opd_tmp, opdU_tmp, opd_int, opdU_int, asVal_eq, asRd_eq, contR_val, contR_rd, put_some, seqK_normal, Env.get_set, Env.n_set, hn, h0, h1, known_int, callR, builtinR, opds, typeArg, und22, R.known, hnot, R.len, -Int.ofNat_eq_natCast]
    refine after_loop (h := h) (Q := fun e' => e'.get 5 = .int .u32 (.ofNat (crcBytes (s ^^^ 4294967295) (l.drop (l.length - l.length)))) ∧ crcBytes (s ^^^ 4294967295) (l.drop (l.length - l.length)) < 4294967296 ∧ e'.n = 22)
      (hlp _ (s ^^^ 4294967295) ?_ hs' ?_ ?_ ?_ ?_) fun e' hq => ?_
    · simp [hn]
    · simp [hn, Env.get_set, -Int.ofNat_eq_natCast]
    · simp [hn, Env.get_set]
    · simp [hn, Env.get_set, -Int.ofNat_eq_natCast]
    · simp [hn, Env.get_set]
    · obtain ⟨q1, hb, q2⟩ := hq
      rw [Nat.sub_self, List.drop_zero] at q1 hb
      have hnot2 := not32 hb
      simp [cF_seq, cF_region, cF_ret, oF_cons, oF_nil, opEval, opd_tmp, opdU_tmp, asVal_eq, contR_val, put_some, seqK_normal, Env.get_set, Env.n_set, q2, q1, known_int, hnot2, -Int.ofNat_eq_natCast]
      refine leave_ret hfn ?_
      simp [q2, q1, Env.get_set, -Int.ofNat_eq_natCast, crcMore]
  exact key _ hr
end Go.Ev
namespace Go.Ev
open Go.Proofs
set_option linter.unusedSimpArgs false

/-! tag.erased -/
noncomputable def body245 : Code := loopBody Tryz.f245
theorem er_more {h : Heap} {x : AV} {l : List Nat} (R : Row h x l) (rec : Job → Option Out) (e : Env) (i : Nat) (hn : e.n = 14) (h2 : e.get 2 = .bool false) (h5 : e.get 5 = x) (h6 : e.get 6 = .int .i64 (.ofNat l.length)) (h7 : e.get 7 = .int .i64 (.ofNat i))
    (hi : i < l.length) (hb : l[i] = 255) :
    ∃ e', (codeF C0 body245).app rec none [] e h = some (.code .normal [] e' h) ∧ e'.get 2 = .bool false ∧ e'.get 5 = x ∧ e'.get 6 = .int .i64 (.ofNat l.length) ∧ e'.get 7 = .int .i64 (.ofNat (i + 1)) ∧ e'.n = 14 := by
  have hlt : ilt (Int.ofNat i) (Int.ofNat l.length) = true := by show Nat.blt i l.length = true; rw [blt_nat]; simpa using hi
  have hwr : wr .i64 (iadd (Int.ofNat i) 1) = .ofNat (i + 1) := wr_i64 (n := i + 1) (by have := R.small; omega)
  obtain ⟨b, o, ha, hld⟩ := R.at' i hi
  rw [hb] at hld
  have hieq : ieq 255 255 = true := rfl
  simp only [body245, loopBody, Tryz.f245, fstLoop]
  simp [cF_seq, cF_region, cF_cond, cF_block, cF_skip, cF_exit, oF_cons, oF_nil, opEval, opd_tmp, opdU_tmp, opd_int, h2, h5, h6, h7, R.known, known_int, known_bool, bin_lss, bin_neq, asVal_eq, asRd_eq, contR_val, contR_rd, put_some, seqK_normal, hlt, Env.get_set, Env.n_set, hn, condK_true, condK_false, bin_add, -Int.ofNat_eq_natCast, blockK_normal, hwr, und22, ha, hld, known_ptr, hieq]
theorem er_stop {h : Heap} {x : AV} {l : List Nat} (R : Row h x l) (rec : Job → Option Out) (e : Env) (i : Nat) (hn : e.n = 14) (h5 : e.get 5 = x) (h6 : e.get 6 = .int .i64 (.ofNat l.length)) (h7 : e.get 7 = .int .i64 (.ofNat i))
    (hi : i < l.length) (hb : l[i] ≠ 255) :
    ∃ e', (codeF C0 body245).app rec none [] e h = some (.code .ret [] e' h) ∧ e'.get 2 = .bool false := by
  have hlt : ilt (Int.ofNat i) (Int.ofNat l.length) = true := by show Nat.blt i l.length = true; rw [blt_nat]; simpa using hi
  obtain ⟨b, o, ha, hld⟩ := R.at' i hi
  have hieq : ieq (Int.ofNat l[i]) 255 = false := by show Nat.beq l[i] 255 = false; rw [beq_nat]; simpa using hb
  simp only [body245, loopBody, Tryz.f245, fstLoop]
  simp [cF_seq, cF_region, cF_cond, cF_block, cF_skip, cF_exit, cF_ret, oF_cons, oF_nil, opEval, opd_tmp, opdU_tmp, opd_int, opdU_bool, h5, h6, h7, R.known, known_int, known_bool, bin_lss, bin_neq, asVal_eq, asRd_eq, contR_val, contR_rd, put_some, seqK_normal, seqK_ret, hlt, Env.get_set, Env.n_set, hn, condK_true, condK_false, -Int.ofNat_eq_natCast, blockK_ret, und22, ha, hld, known_ptr, hieq]
theorem er_end {h : Heap} {l : List Nat} (rec : Job → Option Out) (e : Env) (hn : e.n = 14) (h6 : e.get 6 = .int .i64 (.ofNat l.length)) (h7 : e.get 7 = .int .i64 (.ofNat l.length)) :
    (codeF C0 body245).app rec none [] e h = some (.code (.exit 0) [] (e.set 8 (.bool false)) h) := by
  have hlt : ilt (Int.ofNat l.length) (Int.ofNat l.length) = false := by show Nat.blt l.length l.length = false; rw [blt_nat]; simp
  simp only [body245, loopBody, Tryz.f245, fstLoop]
  simp [cF_seq, cF_region, cF_cond, cF_block, cF_skip, cF_exit, oF_cons, oF_nil, opEval, opd_tmp, opdU_tmp, opd_int, h6, h7, known_int, known_bool, bin_lss, asVal_eq, contR_val, put_some, seqK_normal, seqK_exit, hlt, Env.get_set, Env.n_set, hn, condK_false, -Int.ofNat_eq_natCast]
theorem er_loop {h : Heap} {x : AV} {l : List Nat} (R : Row h x l) : ∀ (k m : Nat), k ≤ m → k ≤ l.length → ∀ (e : Env), e.n = 14 → e.get 2 = .bool false → e.get 5 = x → e.get 6 = .int .i64 (.ofNat l.length) → e.get 7 = .int .i64 (.ofNat (l.length - k)) →
    ∃ e', (codeF C0 (.loop body245)).app (fast C0 m) none [] e h = some (.code (bif all255 (l.drop (l.length - k)) then .exit 0 else .ret) [] e' h) ∧ (all255 (l.drop (l.length - k)) = false → e'.get 2 = .bool false) ∧ (all255 (l.drop (l.length - k)) = true → e'.n = 14) := by
  intro k
  induction k with
  | zero =>
    intro m _ _ e hn h2 h5 h6 h7
    have e0 : l.drop (l.length - 0) = [] := by simp
    refine ⟨e.set 8 (.bool false), ?_, (by rw [e0]; intro hh; cases hh), fun _ => by rw [Env.n_set, hn]⟩
    rw [cF_loop, er_end (l := l) _ e hn h6 (by simpa using h7), e0]; rfl
  | succ k ih =>
    intro m hm hk e hn h2 h5 h6 h7
    have hi : l.length - (k + 1) < l.length := by omega
    have hd : l.drop (l.length - (k + 1)) = l[l.length - (k + 1)] :: l.drop (l.length - k) := by
      rw [List.drop_eq_getElem_cons hi, show l.length - (k + 1) + 1 = l.length - k by omega]
    rw [hd]
    by_cases hb : l[l.length - (k + 1)] = 255
    · obtain ⟨e', g1, g2, g3, g4, g5, g6⟩ := er_more R (fast C0 m) e (l.length - (k + 1)) hn h2 h5 h6 h7 hi hb
      obtain ⟨m, rfl⟩ : ∃ m', m = m' + 1 := ⟨m - 1, by omega⟩
      obtain ⟨e2, f1, f2, f3⟩ := ih m (by omega) (by omega) e' g6 g2 g3 g4 (by rw [g5]; congr 2; omega)
      have ha : all255 (l[l.length - (k + 1)] :: l.drop (l.length - k)) = all255 (l.drop (l.length - k)) := by simp [all255, hb]
      rw [ha]
      refine ⟨e2, ?_, f2, f3⟩
      rw [cF_loop, g1, seqK_normal]
      exact f1
    · obtain ⟨e', g1, g2⟩ := er_stop R (fast C0 m) e (l.length - (k + 1)) hn h5 h6 h7 hi hb
      have ha : all255 (l[l.length - (k + 1)] :: l.drop (l.length - k)) = false := by simp [all255, beq_nat, hb]
      rw [ha]
      refine ⟨e', ?_, fun _ => g2, fun hh => (by cases hh)⟩
      rw [cF_loop, g1, seqK_ret]; rfl
theorem erased_call {h : Heap} {x : AV} {l : List Nat} (R : Row h x l) (m : Nat) (hm : l.length ≤ m) :
    fast C0 (m + 2) (.call 245 [x] h) = some (.val (.bool (all255 l)) h) := by
  rw [call_body (c := (Tryz.f245.body.getD .skip)) fn245 rfl]
  obtain ⟨e0, he, hn, h0⟩ := start1 x Tryz.f245.ntmps (by decide)
  rw [he]
  clear he
  have hn : e0.n = 14 := hn
  have hr : Tryz.f245.results = #[.tmp 2] := rfl
  have key : ∀ fn : Func, fn.results = #[.tmp 2] → leave C0 fn ((codeF C0 (Tryz.f245.body.getD .skip)).app (fast C0 m) none [] e0 h) = some (.val (.bool (all255 l)) h) := by
    intro fn hfn
    have hlp := er_loop R l.length m hm (Nat.le_refl _)
    simp only [body245, loopBody, Tryz.f245, fstLoop] at hlp
    simp only [Tryz.f245, Option.getD_some]
    simp [cF_seq, cF_region, cF_block, oF_cons, oF_nil, opEval, opd_tmp, opdU_tmp, opd_int, opdU_int, opdU_bool, asVal_eq, asRd_eq, contR_val, contR_rd, put_some, seqK_normal, Env.get_set, Env.n_set, hn, h0, known_int, callR, builtinR, opds, typeArg, und22, R.known, R.len, -Int.ofNat_eq_natCast]
    have two : ∀ (k : List Nat → Env → Heap → Option Out) (X : Option Out), (∃ e', X = some (.code (bif all255 l then .exit 0 else .ret) [] e' h) ∧ (all255 l = false → e'.get 2 = .bool false) ∧ (all255 l = true → e'.n = 14)) →
        (∀ e', e'.n = 14 → leave C0 fn (k [] e' h) = some (.val (.bool true) h)) → leave C0 fn (seqK k (blockK 0 X)) = some (.val (.bool (all255 l)) h) := by
      rintro k X ⟨e', rfl, q1, q2⟩ hk
      cases ha : all255 l with
      | true => exact hk e' (q2 ha)
      | false => exact leave_ret hfn (q1 ha)
    rw [Nat.sub_self, List.drop_zero] at hlp
    refine two _ _ (hlp _ ?_ ?_ ?_ ?_ ?_) fun e' hq => ?_
    · simp [hn]
    · simp [hn, Env.get_set]
    · simp [hn, Env.get_set, h0]
    · simp [hn, Env.get_set, -Int.ofNat_eq_natCast]
    · simp [hn, Env.get_set]
    · simp [cF_seq, cF_region, cF_ret, oF_cons, oF_nil, opEval, opdU_bool, asVal_eq, contR_val, put_some, seqK_normal, -Int.ofNat_eq_natCast]
      exact leave_ret hfn (by simp [Env.get_set, hq])
  exact key _ hr
end Go.Ev
namespace Go.Ev
open Go.Proofs
set_option linter.unusedSimpArgs false

theorem Tr.setP_setP {α : Type} (v w : Option α) : ∀ (p : Pt) (t : Tr α), Tr.setP v p (Tr.setP w p t) = Tr.setP v p t
  | .o, t => by cases t <;> rfl
  | .w0 p, t => by cases t <;> simp only [Tr.setP_w0, Tr.setP_setP v w p]
  | .w1 p, t => by cases t <;> simp only [Tr.setP_w1, Tr.setP_setP v w p]
  | .w2 p, t => by cases t <;> simp only [Tr.setP_w2, Tr.setP_setP v w p]
  | .w3 p, t => by cases t <;> simp only [Tr.setP_w3, Tr.setP_setP v w p]
  | .w4 p, t => by cases t <;> simp only [Tr.setP_w4, Tr.setP_setP v w p]
  | .w5 p, t => by cases t <;> simp only [Tr.setP_w5, Tr.setP_setP v w p]
  | .w6 p, t => by cases t <;> simp only [Tr.setP_w6, Tr.setP_setP v w p]
  | .w7 p, t => by cases t <;> simp only [Tr.setP_w7, Tr.setP_setP v w p]
theorem Heap.add_set (h : Heap) (o o' : AObj) : (h.add o).set h.next o' = h.add o' := by
  unfold Heap.add Heap.set Tr.put
  simp only [Tr.setP_setP]
theorem rep_one (a : AV) : ∀ n, rep [a] n = List.replicate n a
  | 0 => rfl
  | n + 1 => by rw [rep, rep_one a n]; rfl
theorem bytes5 : C0.bytes 5 = some 1 := by kernel_rfl
theorem zeros5 : zeros C0 5 = some [.int .u8 (.ofNat 0)] := by kernel_rfl
/-- So many bytes 255, and bytes 0 behind. -/
def mix (n i : Nat) : List AV := List.replicate i (.int .u8 (.ofNat 255)) ++ List.replicate (n - i) (.int .u8 (.ofNat 0))
theorem mix_splice {n i : Nat} (hi : i < n) : splice (mix n i) i [.int .u8 (.ofNat 255)] = some (mix n (i + 1)) := by
  rw [splice_eq, if_pos (by simp [mix]; omega)]
  congr 1
  have h1 : (mix n i).take i = List.replicate i (.int .u8 (.ofNat 255)) := by unfold mix; rw [List.take_left' (by simp)]
  have h2 : (mix n i).drop (i + 1) = List.replicate (n - (i + 1)) (.int .u8 (.ofNat 0)) := by
    unfold mix
    rw [List.drop_append, List.drop_of_length_le (by simp), List.length_replicate, List.drop_replicate, List.nil_append]
    congr 1; omega
  simp only [List.length_singleton]
  rw [h1, h2]
  unfold mix
  rw [List.replicate_succ' (n := i)]
noncomputable def body243 : Code := loopBody Tryz.f243
theorem ones_round (h₀ : Heap) (rec : Job → Option Out) (e : Env) (n i : Nat) (hsm : n < 1000000) (hn : e.n = 17) (h3 : e.get 3 = .sl h₀.next 0 n (.ex n)) (h8 : e.get 8 = .int .i64 (.ofNat n)) (h9 : e.get 9 = .int .i64 (.ofNat i)) (hi : i < n) :
    ∃ e', (codeF C0 body243).app rec none [] e (h₀.add (.cells (mix n i))) = some (.code .normal [] e' (h₀.add (.cells (mix n (i + 1))))) ∧ e'.get 3 = .sl h₀.next 0 n (.ex n) ∧ e'.get 8 = .int .i64 (.ofNat n) ∧ e'.get 9 = .int .i64 (.ofNat (i + 1)) ∧ e'.n = 17 := by
  have hlt : ilt (Int.ofNat i) (Int.ofNat n) = true := by show Nat.blt i n = true; rw [blt_nat]; simpa using hi
  have hwr : wr .i64 (iadd (Int.ofNat i) 1) = .ofNat (i + 1) := wr_i64 (n := i + 1) (by omega)
  have ha : indexAddrAV C0 (some (.sl h₀.next 0 n (.ex n))) (some (.int .i64 (.ofNat i))) (some (.slice 5)) = some (.ptr h₀.next i) := by
    simp only [indexAddrAV, size5]
    rw [cond_blt, if_pos hi]; simp
  have hst : storeR (h₀.add (.cells (mix n i))) (some 1) (some (.ptr h₀.next i)) (some (.int .u8 255)) = .wr (.tup []) (h₀.add (.cells (mix n (i + 1)))) := by
    have hg : (h₀.add (.cells (mix n i))).get h₀.next = some (.cells (mix n i)) := by rw [Heap.get_add, if_pos rfl]
    have : splice (mix n i) i [.int .u8 255] = some (mix n (i + 1)) := mix_splice hi
    simp only [storeR, AV.cells, List.length_singleton, storeAV, hg, allOne, AV.one, this, Heap.add_set, wroteAV]
    rfl
  simp only [body243, loopBody, Tryz.f243, fstLoop]
  simp [cF_seq, cF_region, cF_cond, cF_block, cF_skip, cF_exit, oF_cons, oF_nil, opEval, opd_tmp, opdU_tmp, opd_int, h3, h8, h9, known_int, known_sl, known_ptr, known_bool, bin_lss, asVal_eq, contR_val, contR_wr, put_some, put_none, seqK_normal, hlt, Env.get_set, Env.n_set, hn, condK_true, bin_add, -Int.ofNat_eq_natCast, blockK_normal, hwr, und22, ha, size5, hst]
theorem ones_end (h : Heap) (rec : Job → Option Out) (e : Env) (n : Nat) (hn : e.n = 17) (h8 : e.get 8 = .int .i64 (.ofNat n)) (h9 : e.get 9 = .int .i64 (.ofNat n)) :
    (codeF C0 body243).app rec none [] e h = some (.code (.exit 0) [] (e.set 10 (.bool false)) h) := by
  have hlt : ilt (Int.ofNat n) (Int.ofNat n) = false := by show Nat.blt n n = false; rw [blt_nat]; simp
  simp only [body243, loopBody, Tryz.f243, fstLoop]
  simp [cF_seq, cF_region, cF_cond, cF_block, cF_skip, cF_exit, oF_cons, oF_nil, opEval, opd_tmp, opdU_tmp, opd_int, h8, h9, known_int, known_bool, bin_lss, asVal_eq, contR_val, put_some, seqK_normal, seqK_exit, hlt, Env.get_set, Env.n_set, hn, condK_false, -Int.ofNat_eq_natCast]
theorem ones_loop (h₀ : Heap) (n : Nat) (hsm : n < 1000000) : ∀ (k m : Nat), k ≤ m → k ≤ n → ∀ (e : Env), e.n = 17 → e.get 3 = .sl h₀.next 0 n (.ex n) → e.get 8 = .int .i64 (.ofNat n) → e.get 9 = .int .i64 (.ofNat (n - k)) →
    ∃ e', (codeF C0 (.loop body243)).app (fast C0 m) none [] e (h₀.add (.cells (mix n (n - k)))) = some (.code (.exit 0) [] e' (h₀.add (.cells (mix n n)))) ∧ e'.get 3 = .sl h₀.next 0 n (.ex n) ∧ e'.n = 17 := by
  intro k
  induction k with
  | zero =>
    intro m _ _ e hn h3 h8 h9
    refine ⟨e.set 10 (.bool false), ?_, by rw [get_other (by decide), h3], by rw [Env.n_set, hn]⟩
    rw [cF_loop, ones_end _ _ e n hn h8 (by simpa using h9)]; rfl
  | succ k ih =>
    intro m hm hk e hn h3 h8 h9
    obtain ⟨e', g1, g2, g3, g4, g5⟩ := ones_round h₀ (fast C0 m) e n (n - (k + 1)) hsm hn h3 h8 h9 (by omega)
    obtain ⟨m, rfl⟩ : ∃ m', m = m' + 1 := ⟨m - 1, by omega⟩
    rw [show n - (k + 1) + 1 = n - k by omega] at g1 g4
    obtain ⟨e2, f1, f2, f3⟩ := ih m (by omega) (by omega) e' g5 g2 g3 g4
    refine ⟨e2, ?_, f2, f3⟩
    rw [cF_loop, g1, seqK_normal]
    exact f1
theorem opdU_nilsl (e : Env) : opdU e (.const (.slice none 0 0)) = some .nilsl := rfl
theorem ones_call (h : Heap) (n : Nat) (hsm : n < 1000000) (m : Nat) (hm : n ≤ m) :
    fast C0 (m + 2) (.call 243 [.int .i64 (.ofNat n)] h) = some (.val (.sl h.next 0 n (.ex n)) (h.add (.cells (rep [.int .u8 (.ofNat 255)] n)))) := by
  rw [call_body (c := (Tryz.f243.body.getD .skip)) fn243 rfl]
  obtain ⟨e0, he, hn, h0⟩ := start1 (.int .i64 (.ofNat n)) Tryz.f243.ntmps (by decide)
  rw [he]
  clear he
  have hn : e0.n = 17 := hn
  have hr : Tryz.f243.results = #[.tmp 2] := rfl
  have hend : rep [.int .u8 (.ofNat 255)] n = mix n n := by rw [rep_one]; simp [mix]
  rw [hend]
  have key : ∀ fn : Func, fn.results = #[.tmp 2] → leave C0 fn ((codeF C0 (Tryz.f243.body.getD .skip)).app (fast C0 m) none [] e0 h) = some (.val (.sl h.next 0 n (.ex n)) (h.add (.cells (mix n n)))) := by
    intro fn hfn
    have hlp := ones_loop h n hsm n m hm (Nat.le_refl _)
    simp only [body243, loopBody, Tryz.f243, fstLoop] at hlp
    simp only [Tryz.f243, Option.getD_some]
    have hmk : makeSliceR C0 (some (.int .i64 (.ofNat n))) (some (.int .i64 (.ofNat n))) (some (.slice 5)) = .new (.cells (mix n 0)) (fun b => .sl b 0 n (.ex n)) := by
      simp only [makeSliceR, size5, zeros5, bytes5, Nat.one_mul, ble_nat, beq_nat, blt_nat]
      rw [decide_eq_true (show n ≤ 281474976710656 by omega), decide_eq_true (Nat.le_refl n)]
      simp only [Bool.and_self, List.length_singleton, decide_true, Bool.true_and, cond_true, rowR, rep_one, mix, List.replicate_zero, List.nil_append, Nat.sub_zero]
      rfl
    simp [cF_seq, cF_region, cF_block, oF_cons, oF_nil, opEval, opd_tmp, opdU_tmp, opd_int, opdU_int, opdU_nilsl, asVal_eq, asRd_eq, contR_val, contR_rd, contR_new, put_some, seqK_normal, Env.get_set, Env.n_set, hn, h0, known_int, known_sl, callR, builtinR, opds, typeArg, und22, hmk, lenAV, -Int.ofNat_eq_natCast]
    rw [Nat.sub_self] at hlp
    refine after_loop (h := h.add (.cells (mix n n))) (Q := fun e' => e'.get 3 = .sl h.next 0 n (.ex n) ∧ e'.n = 17) (hlp _ ?_ ?_ ?_ ?_) fun e' hq => ?_
    · simp [hn]
    · simp [hn, Env.get_set]
    · simp [hn, Env.get_set, -Int.ofNat_eq_natCast]
    · simp [hn, Env.get_set]
    · obtain ⟨q1, q2⟩ := hq
      simp [cF_seq, cF_region, cF_ret, oF_cons, oF_nil, opEval, opd_tmp, opdU_tmp, asVal_eq, contR_val, put_some, seqK_normal, Env.get_set, Env.n_set, q2, q1]
      exact leave_ret hfn (by simp [Env.get_set, q1, q2])
  exact key _ hr
end Go.Ev
namespace Go.Ev
open Go.Proofs
set_option linter.unusedSimpArgs false

/-! internal/bytealg.IndexByteString -/
theorem find_range {c : UInt8} : ∀ (l : List UInt8) (k : Nat) (p : Nat → Bool), (∀ j (hj : j < l.length), p (k + j) = (l[j] == c)) →
    (List.range' k l.length).find? p = (match findByte c.toNat (l.map UInt8.toNat) k with | .ofNat i => some i | _ => none) ∧ (findByte c.toNat (l.map UInt8.toNat) k = -1 ∨ ∃ i : Nat, findByte c.toNat (l.map UInt8.toNat) k = .ofNat i)
  | [], k, p, _ => ⟨rfl, .inl rfl⟩
  | a :: l, k, p, hp => by
    have h0 := hp 0 (by simp)
    simp only [Nat.add_zero, List.getElem_cons_zero] at h0
    have ih := find_range (c := c) l (k + 1) p fun j hj => by
      have := hp (j + 1) (by simpa using hj)
      simp only [List.getElem_cons_succ] at this
      rw [← this]; congr 1; omega
    simp only [List.length_cons, List.range'_succ, List.map_cons, findByte, beq_nat]
    by_cases hac : a = c
    · subst hac
      rw [decide_eq_true rfl]
      simp only [List.find?_cons, h0, beq_self_eq_true, cond_true]
      exact ⟨trivial, .inr ⟨k, rfl⟩⟩
    · have h1 : ¬ a.toNat = c.toNat := fun hh => hac (UInt8.toNat_inj.1 hh)
      have h2 : (a == c) = false := by simpa using hac
      rw [decide_eq_false h1, List.find?_cons, h0, h2]
      exact ih
theorem firstIdx_eq (t : ByteArray) (c : UInt8) : firstIdx t c = findByte c.toNat (t.data.toList.map UInt8.toNat) 0 := by
  have hsz : t.size = t.data.toList.length := by show t.data.size = _; simp
  obtain ⟨h1, h2⟩ := find_range (c := c) t.data.toList 0 (fun i => t[i]! == c) fun j hj => by
    simp only [Nat.zero_add]
    congr 1
    rw [getElem!_pos t j (by rw [hsz]; exact hj)]
    rfl
  unfold firstIdx
  rw [List.range_eq_range', hsz, h1]
  rcases h2 with h2 | ⟨i, h2⟩
  · rw [h2]; rfl
  · rw [h2]; rfl

theorem f346 : C0.P.funcs[346]? = some Tryz.f346 := by kernel_rfl
theorem indexByte_ok (C : Ctx) (hP : C.P = C0.P) (S : String → Code → Prop) (s : List Nat) (n : Nat) (hn : n < 256) (h : Heap) : ValOk C S 346 [.str s, .int .u8 (.ofNat n)] h (.int .i64 (findByte n s 0)) h := by
  intro F i vs w R gv
  match vs, gv with
  | [a, b], gv =>
    simp only [VRels, VRel] at gv
    obtain ⟨⟨t, rfl, ht⟩, rfl, _⟩ := gv
    refine .inr ⟨.int .i64 (findByte n s 0), w, ?_, i, Emb.Le.refl _, by simp only [VRel], R⟩
    rw [hP]
    have hc : (Int.ofNat n).toNat.toUInt8.toNat = n := by
      show (n.toUInt8).toNat = n
      simp only [Nat.toUInt8, UInt8.toNat_ofNat']; omega
    have := run_callFunc_extern (P := C0.P) f346 (by kernel_rfl) (by kernel_rfl) (by kernel_rfl) (e := Extern.BytealgIndexByte.indexByte) (by kernel_rfl) #[.string t, .int .u8 (Int.ofNat n)] w
    rw [this, run_indexByte_string, firstIdx_eq, hc, ht]
    rfl
  | [], gv => simp [VRels] at gv
  | [_], gv => simp [VRels] at gv
  | _ :: _ :: _ :: _, gv => simp [VRels] at gv

theorem valOk_P {C D : Ctx} (hP : C.P = D.P) {S : String → Code → Prop} {f : FuncId} {args : List AV} {h h' : Heap} {v : AV} (g : ValOk D S f args h v h') : ValOk C S f args h v h' := by
  intro F i vs w R gv; rw [hP]; exact g F i vs w R gv
theorem base_ok {S : String → Code → Prop} (h0 : CtxOk C0 S) (C : Ctx) (hP : C.P = C0.P) : BaseOk C S sumsOf := by
  intro f s hs rec hrec args h v h' hv
  unfold sumsOf at hs
  rw [cond_beq] at hs
  split at hs
  · rename_i hf; subst hf
    simp only [Option.some.injEq] at hs; subst hs
    unfold crcSum at hv
    split at hv
    · rename_i r x
      split at hv
      · rename_i l hl
        rw [cond_blt] at hv
        split at hv
        · rename_i hr
          simp only [Option.some.injEq, Prod.mk.injEq] at hv; obtain ⟨rfl, rfl⟩ := hv
          exact valOk_P hP (fast_ok h0 _ _ _ (more_call (rowOf_bytes hl) r hr _ (Nat.le_refl _)))
        · cases hv
      · cases hv
    · cases hv
  rw [cond_beq] at hs
  split at hs
  · rename_i hf; subst hf
    simp only [Option.some.injEq] at hs; subst hs
    unfold onesSum at hv
    split at hv
    · rename_i n
      rw [cond_blt] at hv
      split at hv
      · rename_i hr
        simp only [Option.some.injEq, Prod.mk.injEq] at hv; obtain ⟨rfl, rfl⟩ := hv
        exact valOk_P hP (fast_ok h0 _ _ _ (ones_call h n hr _ (Nat.le_refl _)))
      · cases hv
    · cases hv
  rw [cond_beq] at hs
  split at hs
  · rename_i hf; subst hf
    simp only [Option.some.injEq] at hs; subst hs
    unfold erasedSum at hv
    split at hv
    · rename_i x
      split at hv
      · rename_i l hl
        simp only [Option.some.injEq, Prod.mk.injEq] at hv; obtain ⟨rfl, rfl⟩ := hv
        exact valOk_P hP (fast_ok h0 _ _ _ (erased_call (rowOf_bytes hl) _ (Nat.le_refl _)))
      · cases hv
    · cases hv
  rw [cond_beq] at hs
  split at hs
  · rename_i hf; subst hf
    simp only [Option.some.injEq] at hs; subst hs
    unfold indexSum at hv
    split at hv
    · rename_i t n
      rw [cond_blt] at hv
      split at hv
      · rename_i hr
        simp only [Option.some.injEq, Prod.mk.injEq] at hv; obtain ⟨rfl, rfl⟩ := hv
        exact indexByte_ok C hP S t n hr h
      · cases hv
    · cases hv
  · cases hs
end Go.Ev
namespace Go.Ev
open Go.Proofs

/-! The context's facts. -/
def nodupB : List String → Bool
  | [] => true
  | s :: l => !(l.any fun t => s == t) && nodupB l
theorem nodupB_ok : ∀ {l : List String}, nodupB l = true → l.Nodup
  | [], _ => List.nodup_nil
  | s :: l, h => by
    simp only [nodupB, Bool.and_eq_true, Bool.not_eq_true', List.any_eq_false, beq_iff_eq] at h
    exact List.nodup_cons.2 ⟨fun hm => h.1 s hm rfl, nodupB_ok h.2⟩
theorem cuts_all : noCuts nm nr (skipOf cutFns) Tryz.prog.funcs.toList 0 = true := by kernel_rfl
theorem names_apart : nodupB (T.map (·.1)) = true := by kernel_rfl
abbrev SS : String → Code → Prop := inNames T
theorem follows_ok : Tryz.prog.follows .mixedOrders = true := by kernel_rfl
theorem ctx_of (C : Ctx) (hP : C.P = Tryz.prog) (hI : C.info = Tryz.prog.info?) (hF : C.fn = fnsOf Tryz.prog nm nr) (hT : C.csum = csumOf T) (hN : C.cname = cnameOf nm nr T) (hS : SumsOk C SS) : CtxOk C SS := by
  have hC : C.Tab := ⟨fun t i h => by rw [hP, ← hI]; exact h⟩
  have hTT : tabOf C.P nm nr cutFns = T := by rw [hP]; rfl
  have hnd := nodupB_ok names_apart
  have h1 : FnsOk C SS := by
    have := fns_ok (C := C) (nm := nm) (nr := nr) (l := cutFns) (by rw [hF, hP]) (by rw [hTT]; exact hnd) (by rw [hP]; exact cuts_all)
    rwa [hTT] at this
  have h2 : NamesOk C SS := by
    have := names_ok (C := C) (nm := nm) (nr := nr) (l := cutFns) (by rw [hN, hTT]) (by rw [hTT]; exact hnd)
    rwa [hTT] at this
  exact { tab := hC, fns := h1, sums := hS, csums := csums_ok hT, names := h2, draws := draws_ok hC (by rw [hP]; exact follows_ok) }
theorem ctx0 : CtxOk C0 SS := ctx_of C0 (by kernel_rfl) (by kernel_rfl) (by kernel_rfl) (by kernel_rfl) (by kernel_rfl) fun f s h => by cases h
/-- The context with calls whose end is known. -/
noncomputable def CM (ms : List Memo) : Ctx := { P := Tryz.prog, info := Tryz.prog.info?, fn := fnsOf Tryz.prog nm nr, sums := memo ms sumsOf, csum := csumOf T, cname := cnameOf nm nr T }
theorem ctxM {ms : List Memo} (h : ∀ m ∈ ms, m.Ok C0 SS) : CtxOk (CM ms) SS :=
  ctx_of (CM ms) (by kernel_rfl) (by kernel_rfl) (by kernel_rfl) (by kernel_rfl) (by kernel_rfl) (memo_ok (ms := ms) (base := sumsOf) (fun m hm => valOk_P (by kernel_rfl) (h m hm)) (base_ok ctx0 (CM ms) (by kernel_rfl)) (by kernel_rfl))
theorem ends_M {ms : List Memo} (h : ∀ m ∈ ms, m.Ok C0 SS) {n : Nat} {m : Memo} (he : endsIn m.v m.n' m.l' (fast (CM ms) n (.call m.f m.args (ofL m.n m.l))) = true) : m.Ok C0 SS :=
  valOk_P (C := C0) (D := CM ms) (by kernel_rfl) (ends_ok (fast_ok (ctxM h) n) he)
end Go.Ev
namespace Go.Ev
noncomputable section
open Go.Proofs
def lNew : List (Nat × AObj) :=
  [(4, .cells [.sl 6 0 8 (.ex 8), i64 0, .bool false, .bool false, i64 0, .sl 7 0 8 (.ex 8), i64 0, .bool false, .bool false, i64 0, .sl 8 0 8 (.ex 8), i64 0, .bool false, .bool false, i64 0, .sl 9 0 8 (.ex 8), i64 0, .bool false, .bool false, i64 0, .sl 10 0 8 (.ex 8), i64 0, .bool false, .bool false, i64 0, .sl 11 0 8 (.ex 8), i64 0, .bool false, .bool false, i64 0, .sl 12 0 8 (.ex 8), i64 0, .bool false, .bool false, i64 0, .sl 13 0 8 (.ex 8), i64 0, .bool false, .bool false, i64 0, .sl 14 0 8 (.ex 8), i64 0, .bool false, .bool false, i64 0, .sl 15 0 8 (.ex 8), i64 0, .bool false, .bool false, i64 0, .sl 16 0 8 (.ex 8), i64 0, .bool false, .bool false, i64 0, .sl 17 0 8 (.ex 8), i64 0, .bool false, .bool false, i64 0, .sl 18 0 8 (.ex 8), i64 0, .bool false, .bool false, i64 0, .sl 19 0 8 (.ex 8), i64 0, .bool false, .bool false, i64 0, .sl 20 0 8 (.ex 8), i64 0, .bool false, .bool false, i64 0, .sl 21 0 8 (.ex 8), i64 0, .bool false, .bool false, i64 0]),
  (5, .cells [i64 16, i64 8, i64 64, .sl 4 0 16 (.ex 16), .nilsl, i64 0, .bool false, i64 0, i64 0]),
  (6, .cells [.nilsl, .nilsl, .nilsl, .nilsl, .nilsl, .nilsl, .nilsl, .nilsl]),
  (7, .cells [.nilsl, .nilsl, .nilsl, .nilsl, .nilsl, .nilsl, .nilsl, .nilsl]),
  (8, .cells [.nilsl, .nilsl, .nilsl, .nilsl, .nilsl, .nilsl, .nilsl, .nilsl]),
  (9, .cells [.nilsl, .nilsl, .nilsl, .nilsl, .nilsl, .nilsl, .nilsl, .nilsl]),
  (10, .cells [.nilsl, .nilsl, .nilsl, .nilsl, .nilsl, .nilsl, .nilsl, .nilsl]),
  (11, .cells [.nilsl, .nilsl, .nilsl, .nilsl, .nilsl, .nilsl, .nilsl, .nilsl]),
  (12, .cells [.nilsl, .nilsl, .nilsl, .nilsl, .nilsl, .nilsl, .nilsl, .nilsl]),
  (13, .cells [.nilsl, .nilsl, .nilsl, .nilsl, .nilsl, .nilsl, .nilsl, .nilsl]),
  (14, .cells [.nilsl, .nilsl, .nilsl, .nilsl, .nilsl, .nilsl, .nilsl, .nilsl]),
  (15, .cells [.nilsl, .nilsl, .nilsl, .nilsl, .nilsl, .nilsl, .nilsl, .nilsl]),
  (16, .cells [.nilsl, .nilsl, .nilsl, .nilsl, .nilsl, .nilsl, .nilsl, .nilsl]),
  (17, .cells [.nilsl, .nilsl, .nilsl, .nilsl, .nilsl, .nilsl, .nilsl, .nilsl]),
  (18, .cells [.nilsl, .nilsl, .nilsl, .nilsl, .nilsl, .nilsl, .nilsl, .nilsl]),
  (19, .cells [.nilsl, .nilsl, .nilsl, .nilsl, .nilsl, .nilsl, .nilsl, .nilsl]),
  (20, .cells [.nilsl, .nilsl, .nilsl, .nilsl, .nilsl, .nilsl, .nilsl, .nilsl]),
  (21, .cells [.nilsl, .nilsl, .nilsl, .nilsl, .nilsl, .nilsl, .nilsl, .nilsl])]
def lFormat : List (Nat × AObj) :=
  [(4, .cells [.sl 33 0 8 (.ex 8), i64 3, .bool false, .bool false, i64 1, .sl 37 0 8 (.ex 8), i64 0, .bool false, .bool false, i64 1, .sl 41 0 8 (.ex 8), i64 0, .bool false, .bool false, i64 1, .sl 45 0 8 (.ex 8), i64 0, .bool false, .bool false, i64 1, .sl 49 0 8 (.ex 8), i64 0, .bool false, .bool false, i64 1, .sl 53 0 8 (.ex 8), i64 0, .bool false, .bool false, i64 1, .sl 57 0 8 (.ex 8), i64 0, .bool false, .bool false, i64 1, .sl 61 0 8 (.ex 8), i64 0, .bool false, .bool false, i64 1, .sl 65 0 8 (.ex 8), i64 0, .bool false, .bool false, i64 1, .sl 69 0 8 (.ex 8), i64 0, .bool false, .bool false, i64 1, .sl 73 0 8 (.ex 8), i64 0, .bool false, .bool false, i64 1, .sl 77 0 8 (.ex 8), i64 0, .bool false, .bool false, i64 1, .sl 81 0 8 (.ex 8), i64 0, .bool false, .bool false, i64 1, .sl 85 0 8 (.ex 8), i64 0, .bool false, .bool false, i64 1, .sl 89 0 8 (.ex 8), i64 0, .bool false, .bool false, i64 1, .sl 93 0 8 (.ex 8), i64 0, .bool false, .bool false, i64 1]),
  (5, .cells [i64 16, i64 8, i64 64, .sl 4 0 16 (.ex 16), .nilsl, i64 19, .bool false, i64 19, i64 0]),
  (33, .cells [.sl 420 0 96 (.rest 1), .sl 667 0 96 (.rest 1), .sl 799 0 96 (.rest 1), .nilsl, .nilsl, .nilsl, .nilsl, .nilsl]),
  (37, .cells [.nilsl, .nilsl, .nilsl, .nilsl, .nilsl, .nilsl, .nilsl, .nilsl]),
  (41, .cells [.nilsl, .nilsl, .nilsl, .nilsl, .nilsl, .nilsl, .nilsl, .nilsl]),
  (45, .cells [.nilsl, .nilsl, .nilsl, .nilsl, .nilsl, .nilsl, .nilsl, .nilsl]),
  (49, .cells [.nilsl, .nilsl, .nilsl, .nilsl, .nilsl, .nilsl, .nilsl, .nilsl]),
  (53, .cells [.nilsl, .nilsl, .nilsl, .nilsl, .nilsl, .nilsl, .nilsl, .nilsl]),
  (57, .cells [.nilsl, .nilsl, .nilsl, .nilsl, .nilsl, .nilsl, .nilsl, .nilsl]),
  (61, .cells [.nilsl, .nilsl, .nilsl, .nilsl, .nilsl, .nilsl, .nilsl, .nilsl]),
  (65, .cells [.nilsl, .nilsl, .nilsl, .nilsl, .nilsl, .nilsl, .nilsl, .nilsl]),
  (69, .cells [.nilsl, .nilsl, .nilsl, .nilsl, .nilsl, .nilsl, .nilsl, .nilsl]),
  (73, .cells [.nilsl, .nilsl, .nilsl, .nilsl, .nilsl, .nilsl, .nilsl, .nilsl]),
  (77, .cells [.nilsl, .nilsl, .nilsl, .nilsl, .nilsl, .nilsl, .nilsl, .nilsl]),
  (81, .cells [.nilsl, .nilsl, .nilsl, .nilsl, .nilsl, .nilsl, .nilsl, .nilsl]),
  (85, .cells [.nilsl, .nilsl, .nilsl, .nilsl, .nilsl, .nilsl, .nilsl, .nilsl]),
  (89, .cells [.nilsl, .nilsl, .nilsl, .nilsl, .nilsl, .nilsl, .nilsl, .nilsl]),
  (93, .cells [.nilsl, .nilsl, .nilsl, .nilsl, .nilsl, .nilsl, .nilsl, .nilsl]),
  (420, bs ([2] ++ rpN 0 63 ++ [67, 85, 2, 0, 0, 0, 0, 0, 1] ++ rpN 0 7 ++ [1] ++ rpN 0 7 ++ [86, 23, 15, 249, 0, 0, 0, 0])),
  (667, bs ([2, 0, 1] ++ rpN 0 61 ++ [67, 85, 1, 0, 1, 0, 0, 0, 2] ++ rpN 0 7 ++ [2] ++ rpN 0 7 ++ [43, 0, 227, 152, 0, 0, 0, 0])),
  (799, bs ([2] ++ rpN 0 7 ++ [67, 85, 78, 69, 1, 0, 2, 0, 36, 0, 4] ++ rpN 0 45 ++ [67, 85, 2, 0, 0, 0, 0, 0, 3] ++ rpN 0 7 ++ [2] ++ rpN 0 7 ++ [84, 166, 96, 74, 0, 0, 0, 0]))]
def lMount : List (Nat × AObj) :=
  [(4, .cells [.sl 33 0 8 (.ex 8), i64 3, .bool false, .bool false, i64 1, .sl 37 0 8 (.ex 8), i64 0, .bool false, .bool false, i64 1, .sl 41 0 8 (.ex 8), i64 0, .bool false, .bool false, i64 1, .sl 45 0 8 (.ex 8), i64 0, .bool false, .bool false, i64 1, .sl 49 0 8 (.ex 8), i64 0, .bool false, .bool false, i64 1, .sl 53 0 8 (.ex 8), i64 0, .bool false, .bool false, i64 1, .sl 57 0 8 (.ex 8), i64 0, .bool false, .bool false, i64 1, .sl 61 0 8 (.ex 8), i64 0, .bool false, .bool false, i64 1, .sl 65 0 8 (.ex 8), i64 0, .bool false, .bool false, i64 1, .sl 69 0 8 (.ex 8), i64 0, .bool false, .bool false, i64 1, .sl 73 0 8 (.ex 8), i64 0, .bool false, .bool false, i64 1, .sl 77 0 8 (.ex 8), i64 0, .bool false, .bool false, i64 1, .sl 81 0 8 (.ex 8), i64 0, .bool false, .bool false, i64 1, .sl 85 0 8 (.ex 8), i64 0, .bool false, .bool false, i64 1, .sl 89 0 8 (.ex 8), i64 0, .bool false, .bool false, i64 1, .sl 93 0 8 (.ex 8), i64 0, .bool false, .bool false, i64 1]),
  (5, .cells [i64 16, i64 8, i64 64, .sl 4 0 16 (.ex 16), .nilsl, i64 19, .bool false, i64 19, i64 131]),
  (33, .cells [.sl 420 0 96 (.rest 1), .sl 667 0 96 (.rest 1), .sl 799 0 96 (.rest 1), .nilsl, .nilsl, .nilsl, .nilsl, .nilsl]),
  (37, .cells [.nilsl, .nilsl, .nilsl, .nilsl, .nilsl, .nilsl, .nilsl, .nilsl]),
  (41, .cells [.nilsl, .nilsl, .nilsl, .nilsl, .nilsl, .nilsl, .nilsl, .nilsl]),
  (45, .cells [.nilsl, .nilsl, .nilsl, .nilsl, .nilsl, .nilsl, .nilsl, .nilsl]),
  (49, .cells [.nilsl, .nilsl, .nilsl, .nilsl, .nilsl, .nilsl, .nilsl, .nilsl]),
  (53, .cells [.nilsl, .nilsl, .nilsl, .nilsl, .nilsl, .nilsl, .nilsl, .nilsl]),
  (57, .cells [.nilsl, .nilsl, .nilsl, .nilsl, .nilsl, .nilsl, .nilsl, .nilsl]),
  (61, .cells [.nilsl, .nilsl, .nilsl, .nilsl, .nilsl, .nilsl, .nilsl, .nilsl]),
  (65, .cells [.nilsl, .nilsl, .nilsl, .nilsl, .nilsl, .nilsl, .nilsl, .nilsl]),
  (69, .cells [.nilsl, .nilsl, .nilsl, .nilsl, .nilsl, .nilsl, .nilsl, .nilsl]),
  (73, .cells [.nilsl, .nilsl, .nilsl, .nilsl, .nilsl, .nilsl, .nilsl, .nilsl]),
  (77, .cells [.nilsl, .nilsl, .nilsl, .nilsl, .nilsl, .nilsl, .nilsl, .nilsl]),
  (81, .cells [.nilsl, .nilsl, .nilsl, .nilsl, .nilsl, .nilsl, .nilsl, .nilsl]),
  (85, .cells [.nilsl, .nilsl, .nilsl, .nilsl, .nilsl, .nilsl, .nilsl, .nilsl]),
  (89, .cells [.nilsl, .nilsl, .nilsl, .nilsl, .nilsl, .nilsl, .nilsl, .nilsl]),
  (93, .cells [.nilsl, .nilsl, .nilsl, .nilsl, .nilsl, .nilsl, .nilsl, .nilsl]),
  (420, bs ([2] ++ rpN 0 63 ++ [67, 85, 2, 0, 0, 0, 0, 0, 1] ++ rpN 0 7 ++ [1] ++ rpN 0 7 ++ [86, 23, 15, 249, 0, 0, 0, 0])),
  (667, bs ([2, 0, 1] ++ rpN 0 61 ++ [67, 85, 1, 0, 1, 0, 0, 0, 2] ++ rpN 0 7 ++ [2] ++ rpN 0 7 ++ [43, 0, 227, 152, 0, 0, 0, 0])),
  (799, bs ([2] ++ rpN 0 7 ++ [67, 85, 78, 69, 1, 0, 2, 0, 36, 0, 4] ++ rpN 0 45 ++ [67, 85, 2, 0, 0, 0, 0, 0, 3] ++ rpN 0 7 ++ [2] ++ rpN 0 7 ++ [84, 166, 96, 74, 0, 0, 0, 0])),
  (1245, .map [(u32 1, .agg [i64 0, i64 1], 0), (u32 0, .agg [i64 0, i64 2], 1)] 2),
  (1250, .map [] 0),
  (1251, .map [] 0),
  (1253, .cells [.bool false, .bool false, .bool false, .bool false, .bool false, .bool false, .bool false, .bool false, .bool false, .bool false, .bool false, .bool false, .bool false, .bool false, .bool false, .bool false]),
  (1254, .cells [.ptr 5 0, .ptr 1284 0, i64 2, i64 0, .sl 1265 8 56 (.rest 1), .map 1245, .map 1250, .map 1251, u64 4, u64 3, .sl 1253 0 16 (.ex 16), .bool false]),
  (1265, bs ([2] ++ rpN 0 7 ++ [67, 85, 78, 69, 1, 0, 2, 0, 36, 0, 4] ++ rpN 0 45)),
  (1284, .cells [.ptr 5 0, .sl 1332 0 16 (.rest 4), .int .i64 (.negSucc 0), i64 2, i64 0, .bool false]),
  (1332, .cells [i64 2, i64 2, i64 1, i64 0, i64 0, i64 0, i64 1, i64 0, i64 0, i64 0, i64 1, i64 0, i64 0, i64 0, i64 1, i64 0, i64 0, i64 0, i64 1, i64 0, i64 0, i64 0, i64 1, i64 0, i64 0, i64 0, i64 1, i64 0, i64 0, i64 0, i64 1, i64 0, i64 0, i64 0, i64 1, i64 0, i64 0, i64 0, i64 1, i64 0, i64 0, i64 0, i64 1, i64 0, i64 0, i64 0, i64 1, i64 0, i64 0, i64 0, i64 1, i64 0, i64 0, i64 0, i64 1, i64 0, i64 0, i64 0, i64 1, i64 0, i64 0, i64 0, i64 1, i64 0]),
  (1644, .map [] 0),
  (1645, .map [] 0),
  (1646, .cells [.ptr 1254 0, i64 2, i64 3, i64 36, i64 4, i64 64, .map 1644, .map 1645]),
  (1647, .cells [.ptr 1646 0]),
  (1649, .cells [.ptr 5 0, .ptr 1647 0, i64 0, i64 0, i64 0, i64 0, i64 0, i64 0, i64 0, i64 0, i64 0, i64 0, i64 0, i64 0, i64 0, i64 0, i64 0, i64 0, i64 0, i64 0, i64 0, i64 0, i64 0, i64 0, i64 0, i64 0, i64 0, i64 0, i64 0, i64 0, i64 0, i64 0, i64 0, i64 0, i64 0, i64 0, i64 0, i64 0, i64 0, i64 0, i64 0, i64 0, i64 0, i64 0, i64 0, i64 0, i64 0, i64 0, i64 0, i64 0])]
def lMount2 : List (Nat × AObj) :=
  [(4, .cells [.sl 33 0 8 (.ex 8), i64 3, .bool false, .bool false, i64 1, .sl 37 0 8 (.ex 8), i64 0, .bool false, .bool false, i64 1, .sl 41 0 8 (.ex 8), i64 0, .bool false, .bool false, i64 1, .sl 45 0 8 (.ex 8), i64 0, .bool false, .bool false, i64 1, .sl 49 0 8 (.ex 8), i64 0, .bool false, .bool false, i64 1, .sl 53 0 8 (.ex 8), i64 0, .bool false, .bool false, i64 1, .sl 57 0 8 (.ex 8), i64 0, .bool false, .bool false, i64 1, .sl 61 0 8 (.ex 8), i64 0, .bool false, .bool false, i64 1, .sl 65 0 8 (.ex 8), i64 0, .bool false, .bool false, i64 1, .sl 69 0 8 (.ex 8), i64 0, .bool false, .bool false, i64 1, .sl 73 0 8 (.ex 8), i64 0, .bool false, .bool false, i64 1, .sl 77 0 8 (.ex 8), i64 0, .bool false, .bool false, i64 1, .sl 81 0 8 (.ex 8), i64 0, .bool false, .bool false, i64 1, .sl 85 0 8 (.ex 8), i64 0, .bool false, .bool false, i64 1, .sl 89 0 8 (.ex 8), i64 0, .bool false, .bool false, i64 1, .sl 93 0 8 (.ex 8), i64 0, .bool false, .bool false, i64 1]),
  (5, .cells [i64 16, i64 8, i64 64, .sl 4 0 16 (.ex 16), .nilsl, i64 19, .bool false, i64 19, i64 262]),
  (33, .cells [.sl 420 0 96 (.rest 1), .sl 667 0 96 (.rest 1), .sl 799 0 96 (.rest 1), .nilsl, .nilsl, .nilsl, .nilsl, .nilsl]),
  (37, .cells [.nilsl, .nilsl, .nilsl, .nilsl, .nilsl, .nilsl, .nilsl, .nilsl]),
  (41, .cells [.nilsl, .nilsl, .nilsl, .nilsl, .nilsl, .nilsl, .nilsl, .nilsl]),
  (45, .cells [.nilsl, .nilsl, .nilsl, .nilsl, .nilsl, .nilsl, .nilsl, .nilsl]),
  (49, .cells [.nilsl, .nilsl, .nilsl, .nilsl, .nilsl, .nilsl, .nilsl, .nilsl]),
  (53, .cells [.nilsl, .nilsl, .nilsl, .nilsl, .nilsl, .nilsl, .nilsl, .nilsl]),
  (57, .cells [.nilsl, .nilsl, .nilsl, .nilsl, .nilsl, .nilsl, .nilsl, .nilsl]),
  (61, .cells [.nilsl, .nilsl, .nilsl, .nilsl, .nilsl, .nilsl, .nilsl, .nilsl]),
  (65, .cells [.nilsl, .nilsl, .nilsl, .nilsl, .nilsl, .nilsl, .nilsl, .nilsl]),
  (69, .cells [.nilsl, .nilsl, .nilsl, .nilsl, .nilsl, .nilsl, .nilsl, .nilsl]),
  (73, .cells [.nilsl, .nilsl, .nilsl, .nilsl, .nilsl, .nilsl, .nilsl, .nilsl]),
  (77, .cells [.nilsl, .nilsl, .nilsl, .nilsl, .nilsl, .nilsl, .nilsl, .nilsl]),
  (81, .cells [.nilsl, .nilsl, .nilsl, .nilsl, .nilsl, .nilsl, .nilsl, .nilsl]),
  (85, .cells [.nilsl, .nilsl, .nilsl, .nilsl, .nilsl, .nilsl, .nilsl, .nilsl]),
  (89, .cells [.nilsl, .nilsl, .nilsl, .nilsl, .nilsl, .nilsl, .nilsl, .nilsl]),
  (93, .cells [.nilsl, .nilsl, .nilsl, .nilsl, .nilsl, .nilsl, .nilsl, .nilsl]),
  (420, bs ([2] ++ rpN 0 63 ++ [67, 85, 2, 0, 0, 0, 0, 0, 1] ++ rpN 0 7 ++ [1] ++ rpN 0 7 ++ [86, 23, 15, 249, 0, 0, 0, 0])),
  (667, bs ([2, 0, 1] ++ rpN 0 61 ++ [67, 85, 1, 0, 1, 0, 0, 0, 2] ++ rpN 0 7 ++ [2] ++ rpN 0 7 ++ [43, 0, 227, 152, 0, 0, 0, 0])),
  (799, bs ([2] ++ rpN 0 7 ++ [67, 85, 78, 69, 1, 0, 2, 0, 36, 0, 4] ++ rpN 0 45 ++ [67, 85, 2, 0, 0, 0, 0, 0, 3] ++ rpN 0 7 ++ [2] ++ rpN 0 7 ++ [84, 166, 96, 74, 0, 0, 0, 0])),
  (1245, .map [(u32 1, .agg [i64 0, i64 1], 0), (u32 0, .agg [i64 0, i64 2], 1)] 2),
  (1250, .map [] 0),
  (1251, .map [] 0),
  (1253, .cells [.bool false, .bool false, .bool false, .bool false, .bool false, .bool false, .bool false, .bool false, .bool false, .bool false, .bool false, .bool false, .bool false, .bool false, .bool false, .bool false]),
  (1254, .cells [.ptr 5 0, .ptr 1284 0, i64 2, i64 0, .sl 1265 8 56 (.rest 1), .map 1245, .map 1250, .map 1251, u64 4, u64 3, .sl 1253 0 16 (.ex 16), .bool false]),
  (1265, bs ([2] ++ rpN 0 7 ++ [67, 85, 78, 69, 1, 0, 2, 0, 36, 0, 4] ++ rpN 0 45)),
  (1284, .cells [.ptr 5 0, .sl 1332 0 16 (.rest 4), .int .i64 (.negSucc 0), i64 2, i64 0, .bool false]),
  (1332, .cells [i64 2, i64 2, i64 1, i64 0, i64 0, i64 0, i64 1, i64 0, i64 0, i64 0, i64 1, i64 0, i64 0, i64 0, i64 1, i64 0, i64 0, i64 0, i64 1, i64 0, i64 0, i64 0, i64 1, i64 0, i64 0, i64 0, i64 1, i64 0, i64 0, i64 0, i64 1, i64 0, i64 0, i64 0, i64 1, i64 0, i64 0, i64 0, i64 1, i64 0, i64 0, i64 0, i64 1, i64 0, i64 0, i64 0, i64 1, i64 0, i64 0, i64 0, i64 1, i64 0, i64 0, i64 0, i64 1, i64 0, i64 0, i64 0, i64 1, i64 0, i64 0, i64 0, i64 1, i64 0]),
  (1644, .map [] 0),
  (1645, .map [] 0),
  (1646, .cells [.ptr 1254 0, i64 2, i64 3, i64 36, i64 4, i64 64, .map 1644, .map 1645]),
  (1647, .cells [.ptr 1646 0]),
  (1649, .cells [.ptr 5 0, .ptr 1647 0, i64 0, i64 0, i64 0, i64 0, i64 0, i64 0, i64 0, i64 0, i64 0, i64 0, i64 0, i64 0, i64 0, i64 0, i64 0, i64 0, i64 0, i64 0, i64 0, i64 0, i64 0, i64 0, i64 0, i64 0, i64 0, i64 0, i64 0, i64 0, i64 0, i64 0, i64 0, i64 0, i64 0, i64 0, i64 0, i64 0, i64 0, i64 0, i64 0, i64 0, i64 0, i64 0, i64 0, i64 0, i64 0, i64 0, i64 0, i64 0]),
  (2082, .map [(u32 1, .agg [i64 0, i64 1], 0), (u32 0, .agg [i64 0, i64 2], 1)] 2),
  (2087, .map [] 0),
  (2088, .map [] 0),
  (2090, .cells [.bool false, .bool false, .bool false, .bool false, .bool false, .bool false, .bool false, .bool false, .bool false, .bool false, .bool false, .bool false, .bool false, .bool false, .bool false, .bool false]),
  (2091, .cells [.ptr 5 0, .ptr 2121 0, i64 2, i64 0, .sl 2102 8 56 (.rest 1), .map 2082, .map 2087, .map 2088, u64 4, u64 3, .sl 2090 0 16 (.ex 16), .bool false]),
  (2102, bs ([2] ++ rpN 0 7 ++ [67, 85, 78, 69, 1, 0, 2, 0, 36, 0, 4] ++ rpN 0 45)),
  (2121, .cells [.ptr 5 0, .sl 2169 0 16 (.rest 4), .int .i64 (.negSucc 0), i64 2, i64 0, .bool false]),
  (2169, .cells [i64 2, i64 2, i64 1, i64 0, i64 0, i64 0, i64 1, i64 0, i64 0, i64 0, i64 1, i64 0, i64 0, i64 0, i64 1, i64 0, i64 0, i64 0, i64 1, i64 0, i64 0, i64 0, i64 1, i64 0, i64 0, i64 0, i64 1, i64 0, i64 0, i64 0, i64 1, i64 0, i64 0, i64 0, i64 1, i64 0, i64 0, i64 0, i64 1, i64 0, i64 0, i64 0, i64 1, i64 0, i64 0, i64 0, i64 1, i64 0, i64 0, i64 0, i64 1, i64 0, i64 0, i64 0, i64 1, i64 0, i64 0, i64 0, i64 1, i64 0, i64 0, i64 0, i64 1, i64 0]),
  (2481, .map [] 0),
  (2482, .map [] 0),
  (2483, .cells [.ptr 2091 0, i64 2, i64 3, i64 36, i64 4, i64 64, .map 2481, .map 2482]),
  (2484, .cells [.ptr 2483 0]),
  (2486, .cells [.ptr 5 0, .ptr 2484 0, i64 0, i64 0, i64 0, i64 0, i64 0, i64 0, i64 0, i64 0, i64 0, i64 0, i64 0, i64 0, i64 0, i64 0, i64 0, i64 0, i64 0, i64 0, i64 0, i64 0, i64 0, i64 0, i64 0, i64 0, i64 0, i64 0, i64 0, i64 0, i64 0, i64 0, i64 0, i64 0, i64 0, i64 0, i64 0, i64 0, i64 0, i64 0, i64 0, i64 0, i64 0, i64 0, i64 0, i64 0, i64 0, i64 0, i64 0, i64 0])]
def lOpen : List (Nat × AObj) :=
  [(4, .cells [.sl 33 0 8 (.ex 8), i64 3, .bool false, .bool false, i64 1, .sl 37 0 8 (.ex 8), i64 0, .bool false, .bool false, i64 1, .sl 41 0 8 (.ex 8), i64 0, .bool false, .bool false, i64 1, .sl 45 0 8 (.ex 8), i64 0, .bool false, .bool false, i64 1, .sl 49 0 8 (.ex 8), i64 0, .bool false, .bool false, i64 1, .sl 53 0 8 (.ex 8), i64 0, .bool false, .bool false, i64 1, .sl 57 0 8 (.ex 8), i64 0, .bool false, .bool false, i64 1, .sl 61 0 8 (.ex 8), i64 0, .bool false, .bool false, i64 1, .sl 65 0 8 (.ex 8), i64 0, .bool false, .bool false, i64 1, .sl 69 0 8 (.ex 8), i64 0, .bool false, .bool false, i64 1, .sl 73 0 8 (.ex 8), i64 0, .bool false, .bool false, i64 1, .sl 77 0 8 (.ex 8), i64 0, .bool false, .bool false, i64 1, .sl 81 0 8 (.ex 8), i64 0, .bool false, .bool false, i64 1, .sl 85 0 8 (.ex 8), i64 0, .bool false, .bool false, i64 1, .sl 89 0 8 (.ex 8), i64 0, .bool false, .bool false, i64 1, .sl 93 0 8 (.ex 8), i64 0, .bool false, .bool false, i64 1]),
  (5, .cells [i64 16, i64 8, i64 64, .sl 4 0 16 (.ex 16), .nilsl, i64 19, .bool false, i64 19, i64 135]),
  (33, .cells [.sl 420 0 96 (.rest 1), .sl 667 0 96 (.rest 1), .sl 799 0 96 (.rest 1), .nilsl, .nilsl, .nilsl, .nilsl, .nilsl]),
  (37, .cells [.nilsl, .nilsl, .nilsl, .nilsl, .nilsl, .nilsl, .nilsl, .nilsl]),
  (41, .cells [.nilsl, .nilsl, .nilsl, .nilsl, .nilsl, .nilsl, .nilsl, .nilsl]),
  (45, .cells [.nilsl, .nilsl, .nilsl, .nilsl, .nilsl, .nilsl, .nilsl, .nilsl]),
  (49, .cells [.nilsl, .nilsl, .nilsl, .nilsl, .nilsl, .nilsl, .nilsl, .nilsl]),
  (53, .cells [.nilsl, .nilsl, .nilsl, .nilsl, .nilsl, .nilsl, .nilsl, .nilsl]),
  (57, .cells [.nilsl, .nilsl, .nilsl, .nilsl, .nilsl, .nilsl, .nilsl, .nilsl]),
  (61, .cells [.nilsl, .nilsl, .nilsl, .nilsl, .nilsl, .nilsl, .nilsl, .nilsl]),
  (65, .cells [.nilsl, .nilsl, .nilsl, .nilsl, .nilsl, .nilsl, .nilsl, .nilsl]),
  (69, .cells [.nilsl, .nilsl, .nilsl, .nilsl, .nilsl, .nilsl, .nilsl, .nilsl]),
  (73, .cells [.nilsl, .nilsl, .nilsl, .nilsl, .nilsl, .nilsl, .nilsl, .nilsl]),
  (77, .cells [.nilsl, .nilsl, .nilsl, .nilsl, .nilsl, .nilsl, .nilsl, .nilsl]),
  (81, .cells [.nilsl, .nilsl, .nilsl, .nilsl, .nilsl, .nilsl, .nilsl, .nilsl]),
  (85, .cells [.nilsl, .nilsl, .nilsl, .nilsl, .nilsl, .nilsl, .nilsl, .nilsl]),
  (89, .cells [.nilsl, .nilsl, .nilsl, .nilsl, .nilsl, .nilsl, .nilsl, .nilsl]),
  (93, .cells [.nilsl, .nilsl, .nilsl, .nilsl, .nilsl, .nilsl, .nilsl, .nilsl]),
  (420, bs ([2] ++ rpN 0 63 ++ [67, 85, 2, 0, 0, 0, 0, 0, 1] ++ rpN 0 7 ++ [1] ++ rpN 0 7 ++ [86, 23, 15, 249, 0, 0, 0, 0])),
  (667, bs ([2, 0, 1] ++ rpN 0 61 ++ [67, 85, 1, 0, 1, 0, 0, 0, 2] ++ rpN 0 7 ++ [2] ++ rpN 0 7 ++ [43, 0, 227, 152, 0, 0, 0, 0])),
  (799, bs ([2] ++ rpN 0 7 ++ [67, 85, 78, 69, 1, 0, 2, 0, 36, 0, 4] ++ rpN 0 45 ++ [67, 85, 2, 0, 0, 0, 0, 0, 3] ++ rpN 0 7 ++ [2] ++ rpN 0 7 ++ [84, 166, 96, 74, 0, 0, 0, 0])),
  (1245, .map [(u32 1, .agg [i64 0, i64 1], 0), (u32 0, .agg [i64 0, i64 2], 1)] 2),
  (1250, .map [] 0),
  (1251, .map [] 0),
  (1253, .cells [.bool false, .bool false, .bool false, .bool false, .bool false, .bool false, .bool false, .bool false, .bool false, .bool false, .bool false, .bool false, .bool false, .bool false, .bool false, .bool false]),
  (1254, .cells [.ptr 5 0, .ptr 1284 0, i64 2, i64 0, .sl 1265 8 56 (.rest 1), .map 1245, .map 1250, .map 1251, u64 4, u64 3, .sl 1253 0 16 (.ex 16), .bool false]),
  (1265, bs ([2] ++ rpN 0 7 ++ [67, 85, 78, 69, 1, 0, 2, 0, 36, 0, 4] ++ rpN 0 45)),
  (1284, .cells [.ptr 5 0, .sl 1332 0 16 (.rest 4), .int .i64 (.negSucc 0), i64 2, i64 0, .bool false]),
  (1332, .cells [i64 2, i64 2, i64 1, i64 0, i64 0, i64 0, i64 1, i64 0, i64 0, i64 0, i64 1, i64 0, i64 0, i64 0, i64 1, i64 0, i64 0, i64 0, i64 1, i64 0, i64 0, i64 0, i64 1, i64 0, i64 0, i64 0, i64 1, i64 0, i64 0, i64 0, i64 1, i64 0, i64 0, i64 0, i64 1, i64 0, i64 0, i64 0, i64 1, i64 0, i64 0, i64 0, i64 1, i64 0, i64 0, i64 0, i64 1, i64 0, i64 0, i64 0, i64 1, i64 0, i64 0, i64 0, i64 1, i64 0, i64 0, i64 0, i64 1, i64 0, i64 0, i64 0, i64 1, i64 0]),
  (1644, .map [(i64 3, i64 3, 0)] 1),
  (1645, .map [(i64 1, .sl 2022 0 64 (.rest 1), 0), (i64 3, .sl 1909 0 64 (.rest 1), 1)] 2),
  (1646, .cells [.ptr 1254 0, i64 2, i64 3, i64 36, i64 4, i64 64, .map 1644, .map 1645]),
  (1647, .cells [.ptr 1646 0]),
  (1649, .cells [.ptr 5 0, .ptr 1647 0, i64 2, i64 7, i64 0, i64 0, i64 0, i64 0, i64 0, i64 0, i64 0, i64 0, i64 0, i64 0, i64 0, i64 0, i64 0, i64 0, i64 0, i64 0, i64 0, i64 0, i64 0, i64 0, i64 0, i64 0, i64 0, i64 0, i64 0, i64 0, i64 0, i64 0, i64 0, i64 0, i64 0, i64 0, i64 0, i64 0, i64 0, i64 0, i64 0, i64 0, i64 0, i64 0, i64 0, i64 0, i64 0, i64 0, i64 0, i64 0]),
  (1909, bs ([2, 0, 1, 97] ++ rpN 0 60)),
  (2022, bs ([2, 0, 1, 0, 16, 0, 0, 0, 3] ++ rpN 0 15 ++ [1, 0, 1] ++ rpN 0 37))]
end
end Go.Ev
namespace Go.Ev
noncomputable section
def mFormat : Memo := ⟨6, [.ptr 5 0, i64 2], 22, lNew, i64 0, 813, lFormat⟩
def mMount : Memo := ⟨7, [.ptr 5 0], 813, lFormat, .tup [.ptr 1649 0, i64 0], 1650, lMount⟩
def mMount2 : Memo := ⟨7, [.ptr 5 0], 1650, lMount, .tup [.ptr 2486 0, i64 0], 2487, lMount2⟩
def mKnown : Memo := ⟨4, [], 0, [], .bool true, 2809, []⟩
/-- A memo's call comes to its end. -/
def checks (ms : List Memo) (m : Memo) : Bool := endsIn m.v m.n' m.l' (fast (CM ms) 100000 (.call m.f m.args (ofL m.n m.l)))
theorem checked {ms : List Memo} {m : Memo} (h : ∀ x ∈ ms, x.Ok C0 SS) (hc : checks ms m = true) : m.Ok C0 SS := ends_M h hc
end
end Go.Ev
