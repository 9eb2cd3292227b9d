/- PROVED HERE: the plain law: what the functions compute, with no program in sight. No condition beyond each theorem's own. -/
import Derived.Test.YtkpomphooljgmaaGreatDoorMMac2
namespace Go.Wd
open Go
section
variable {P : Program} {H : List Assn} {s : Slots} {x y : Operand} {T yT : Nat}
theorem Val.rem32 {a b : W} (hx : ev s x = some (w32 a)) (hy : ev s y = some (w32 b)) (hb : b ≠ 0) : Val P H s (.binOp .rem T x y yT) (w32 (a % b)) :=
  Val.bin hx hy fun w => by
    have hb' : (b.toNat : Int) ≠ 0 := by intro h; apply hb; apply BitVec.eq_of_toNat_eq; simpa using h
    have hb2 : b.toNat ≠ 0 := by omega
    have e : (a.toNat : Int).tmod (b.toNat : Int) = ((a % b).toNat : Int) := by
      rw [Int.tmod_eq_emod_of_nonneg (Int.natCast_nonneg _), BitVec.toNat_umod, ← Int.natCast_emod]
    simp [Sem.run_bind, eqGuard_int, binOp, Result.andThen, Op.intDiv, hb2, e]
end
/-! ticks -/
def Mem.tk (M : Mem) : Nat → Mem
  | 0 => M
  | n + 1 => (M.tk n).tick 1
theorem Mem.tk_sec {M : Mem} {n : Nat} : (M.tk n).sec = M.sec := by induction n with | zero => rfl | succ n ih => exact ih
theorem Mem.tk_ins {M : Mem} {n : Nat} : (M.tk n).ins = M.ins := by induction n with | zero => rfl | succ n ih => exact ih
theorem Mem.tk_tk {M : Mem} {a b : Nat} : (M.tk a).tk b = M.tk (a + b) := by induction b with | zero => rfl | succ b ih => rw [Mem.tk, ih]; rfl
theorem Mem.tk_has {M : Mem} {n : Nat} {s : Bool} {p : Int} : (M.tk n).has s p ↔ M.has s p := by cases s <;> simp [Mem.has, Mem.pgs, Mem.tk_sec, Mem.tk_ins]
theorem Mem.tk_get {M : Mem} {n : Nat} {s : Bool} {p o : Int} : (M.tk n).get s p o = M.get s p o := by cases s <;> simp [Mem.get, Mem.page, Mem.pgs, Mem.tk_sec, Mem.tk_ins]
theorem Mem.tk_errW {M : Mem} {n : Nat} {s : Bool} {p o : Int} : (M.tk n).errW s p o = M.errW s p o := by simp [Mem.errW, Mem.tk_has]
theorem Mem.tk_peek {M : Mem} {n : Nat} {s : Bool} {p o : Int} : (M.tk n).peek s p o = M.peek s p o := by simp [Mem.peek, Mem.tk_errW, Mem.tk_get]
theorem Mem.read_val {M : Mem} {s : Bool} {p o : Int} : (M.read s p o).1 = M.peek s p o := by unfold Mem.read Mem.peek; split <;> rfl
theorem Mem.read_err {M : Mem} {s : Bool} {p o : Int} : (M.read s p o).2.1 = M.errW s p o := by unfold Mem.read; split <;> simp [*]
def rdT (M : Mem) (s : Bool) (p o : Int) : Nat := if M.errW s p o = 0 then 1 else 0
theorem rdT_le {M : Mem} {s : Bool} {p o : Int} : rdT M s p o ≤ 1 := by unfold rdT; split <;> omega
theorem Mem.read_mem {M : Mem} {s : Bool} {p o : Int} : (M.read s p o).2.2 = M.tk (rdT M s p o) := by unfold Mem.read rdT; split <;> rfl
/-! addresses -/
def vaOk (va : W) : Prop := va.toNat < 1073741824 ∧ va.toNat % 4 = 0
instance (va : W) : Decidable (vaOk va) := by unfold vaOk; infer_instance
def vaI (va : W) : Int := if vaOk va then (va.toNat : Int) / 4194304 else 0
def vaJ (va : W) : Int := if vaOk va then (va.toNat : Int) / 4096 % 1024 else 0
def vaO (va : W) : Int := if vaOk va then (va.toNat : Int) % 4096 / 4 else 0
def vaE (va : W) : Int := if vaOk va then 0 else 91
theorem vaI_lt {va : W} : 0 ≤ vaI va ∧ vaI va < 256 := by unfold vaI; split <;> (try rename_i h; unfold vaOk at h) <;> omega
theorem vaJ_lt {va : W} : 0 ≤ vaJ va ∧ vaJ va < 1024 := by unfold vaJ; split <;> omega
theorem vaO_lt {va : W} : 0 ≤ vaO va ∧ vaO va < 1024 := by unfold vaO; split <;> omega
theorem and1023 {a : W} : ((a &&& 1023#32).toNat : Int) = (a.toNat : Int) % 1024 := by
  rw [BitVec.toNat_and, show (1023#32).toNat = 2 ^ 10 - 1 from by decide, Nat.and_two_pow_sub_one_eq_mod]; rfl
theorem shr_int {a : W} {k : Nat} : ((a >>> k).toNat : Int) = (a.toNat : Int) / ((2 ^ k : Nat) : Int) := by
  rw [BitVec.toNat_ushiftRight, Nat.shiftRight_eq_div_pow]; rfl
theorem split_bad {va : W} (h : (1073741824#32).toNat ≤ va.toNat ∨ va % 4#32 ≠ 0#32) : tup [i64 0, i64 0, i64 0, i64 91] = .tuple #[i64 (vaI va), i64 (vaJ va), i64 (vaO va), i64 (vaE va)] := by
  have hv : ¬ vaOk va := by
    intro c
    rcases h with h | h
    · have := c.1
      have h2 : (1073741824#32).toNat = 1073741824 := by decide
      omega
    · exact h (by apply BitVec.eq_of_toNat_eq; rw [BitVec.toNat_umod]; exact c.2)
  simp only [vaI, vaJ, vaO, vaE, if_neg hv]; rfl
theorem split_good {va : W} (h : ¬ ((1073741824#32).toNat ≤ va.toNat ∨ va % 4#32 ≠ 0#32)) : tup [i64 ((va >>> 22).toNat : Int), i64 ((va >>> 12 &&& 1023#32).toNat : Int), i64 ((va >>> 2 &&& 1023#32).toNat : Int), i64 0] = .tuple #[i64 (vaI va), i64 (vaJ va), i64 (vaO va), i64 (vaE va)] := by
  have hv : vaOk va := by
    have h2 : ¬ 1073741824 ≤ va.toNat := fun c => h (.inl c)
    have h3 : va % 4#32 = 0#32 := Classical.byContradiction fun c => h (.inr c)
    have h4 := congrArg BitVec.toNat h3
    rw [BitVec.toNat_umod] at h4
    exact ⟨by omega, h4⟩
  have e1 : vaI va = ((va >>> 22).toNat : Int) := by rw [vaI, if_pos hv, shr_int]; rfl
  have e2 : vaJ va = ((va >>> 12 &&& 1023#32).toNat : Int) := by rw [vaJ, if_pos hv, and1023, shr_int]; rfl
  have e3 : vaO va = ((va >>> 2 &&& 1023#32).toNat : Int) := by rw [vaO, if_pos hv, and1023, shr_int]; show _ = (va.toNat : Int) / 4 % 1024; omega
  have e4 : vaE va = 0 := if_pos hv
  rw [e1, e2, e3, e4]; rfl
theorem split_badR {va : W} (h : 1073741824 ≤ (va.toNat : Int) ∨ (va.toNat : Int) % 4 ≠ 0) : tup [i64 0, i64 0, i64 0, i64 91] = .tuple #[i64 (vaI va), i64 (vaJ va), i64 (vaO va), i64 (vaE va)] := by
  have hv : ¬ vaOk va := by intro c; unfold vaOk at c; omega
  simp only [vaI, vaJ, vaO, vaE, if_neg hv]; rfl
theorem split_goodR {va : W} (h : ¬ (1073741824 ≤ (va.toNat : Int) ∨ (va.toNat : Int) % 4 ≠ 0)) : tup [i64 ((va.toNat : Int) / 4194304), i64 ((va.toNat : Int) / 4096 % 1024), i64 ((va.toNat : Int) % 4096 / 4), i64 0] = .tuple #[i64 (vaI va), i64 (vaJ va), i64 (vaO va), i64 (vaE va)] := by
  have hv : vaOk va := by unfold vaOk; omega
  simp only [vaI, vaJ, vaO, vaE, if_pos hv]; rfl
/-! descriptors -/
def first (p : Int) : W × Int := if 0 ≤ p ∧ p < 64 then (BitVec.ofInt 32 (256 * p + 1), 0) else (0, 4)
theorem first_bits {p : Int} (h : 0 ≤ p ∧ p < 64) : BitVec.ofInt 32 p <<< 8 ||| 1#32 = BitVec.ofInt 32 (256 * p + 1) := by
  obtain ⟨n, rfl⟩ : ∃ n : Nat, p = n := ⟨p.toNat, by omega⟩
  have e1 : (BitVec.ofInt 32 (n : Int)).toNat = n := by rw [toNat_ofInt_lt ⟨by omega, by omega⟩]; exact Int.toNat_natCast n
  have e2 : (BitVec.ofInt 32 (256 * (n : Int) + 1)).toNat = 256 * n + 1 := by rw [toNat_ofInt_lt ⟨by omega, by omega⟩]; omega
  have e3 : (BitVec.ofInt 32 (n : Int) <<< 8).toNat = n * 256 := by
    rw [BitVec.toNat_shiftLeft, e1, Nat.shiftLeft_eq]; exact Nat.mod_eq_of_lt (by omega)
  apply BitVec.eq_of_toNat_eq
  rw [BitVec.toNat_or, e2, e3, Nat.or_comm, show (1#32).toNat = 1 from by decide]
  have := or_add (i := 8) (a := 1) (b := n * 256) (by decide) (by omega)
  rw [this]; omega
def parseFirst (w : W) : Int × Int := if w = 0#32 then (0, 92) else if w.toNat % 256 = 1 ∧ w.toNat < 16384 then ((w.toNat : Int) / 256, 0) else (0, 90)
theorem first_eq {w : W} : ((first ((w >>> 8).toNat : Int)).2 = 0 ∧ (first ((w >>> 8).toNat : Int)).1 = w) ↔ (w.toNat % 256 = 1 ∧ w.toNat < 16384) := by
  have h0 : ((w >>> 8).toNat : Int) = (w.toNat : Int) / 256 := by rw [shr_int]; rfl
  have hw := w.isLt
  rw [h0]
  unfold first
  constructor
  · intro h
    split at h
    · obtain ⟨_, h⟩ := h
      have h1 := congrArg BitVec.toNat h
      simp only at h1
      rw [toNat_ofInt_lt (by omega)] at h1
      omega
    · exact absurd h.1 (by decide)
  · intro h
    rw [if_pos (by omega)]
    refine ⟨rfl, ?_⟩
    apply BitVec.eq_of_toNat_eq
    simp only
    rw [toNat_ofInt_lt (by omega)]; omega
theorem parseFirst_zero {w : W} (h : w = 0#32) : parseFirst w = (0, 92) := if_pos h
theorem parseFirst_bad {w : W} (h1 : ¬ w = 0#32) (h2 : (first ((w >>> 8).toNat : Int)).2 ≠ 0 ∨ (first ((w >>> 8).toNat : Int)).1 ≠ w) : parseFirst w = (0, 90) := by
  rw [parseFirst, if_neg h1, if_neg]
  intro c
  have := first_eq.2 c
  rcases h2 with h2 | h2
  · exact h2 this.1
  · exact h2 this.2
theorem parseFirst_good {w : W} (h1 : ¬ w = 0#32) (h2 : ¬ ((first ((w >>> 8).toNat : Int)).2 ≠ 0 ∨ (first ((w >>> 8).toNat : Int)).1 ≠ w)) : parseFirst w = (((w >>> 8).toNat : Int), 0) := by
  have h3 := first_eq.1 ⟨Classical.byContradiction fun c => h2 (.inl c), Classical.byContradiction fun c => h2 (.inr c)⟩
  rw [parseFirst, if_neg h1, if_pos h3, shr_int]; rfl
structure PMap where
  sec : Bool
  page : Int
  wr : Bool
  ex : Bool
deriving DecidableEq
abbrev PMap.cells (m : PMap) : List Value := [.bool m.sec, .int .i64 m.page, .bool m.wr, .bool m.ex]
abbrev PMap.val (m : PMap) : Value := .agg m.cells.toArray
def PMap.zero : PMap := ⟨false, 0, false, false⟩
theorem PMap.cells_inj {a b : PMap} : a.cells = b.cells ↔ a = b := by
  constructor
  · intro h; cases a; cases b; simp at h; simp [h]
  · rintro rfl; rfl
def PMap.bits (m : PMap) : Int := 256 * m.page + 1 + (if m.sec then 2 else 0) + (if m.wr then 4 else 0) + (if m.ex then 8 else 0)
def second (m : PMap) : W × Int := if ¬ (0 ≤ m.page ∧ m.page < 64) then (0, 4) else if m.ex = true ∧ m.sec = false then (0, 1) else (BitVec.ofInt 32 m.bits, 0)
def PMap.bit (m : PMap) : Nat → Bool
  | 0 => m.sec
  | 1 => m.wr
  | _ => m.ex
def bitK : Nat → W
  | 0 => 2#32
  | 1 => 4#32
  | _ => 8#32
def PMap.acc (m : PMap) : Nat → W
  | 0 => BitVec.ofInt 32 m.page <<< 8 ||| 1#32
  | i + 1 => if m.bit i then m.acc i ||| bitK i else m.acc i
theorem PMap.acc_bits {m : PMap} (h : 0 ≤ m.page ∧ m.page < 64) : m.acc 3 = BitVec.ofInt 32 m.bits := by
  obtain ⟨n, hn⟩ : ∃ n : Nat, m.page = n := ⟨m.page.toNat, by omega⟩
  have e0 : ∀ (a p q i : Nat), p = 2 ^ i → q = 2 ^ (i + 1) → q = 2 * p → a % q < p → a + p < 4294967296 → BitVec.ofNat 32 a ||| BitVec.ofNat 32 p = BitVec.ofNat 32 (a + p) := by
    intro a p q i hp hq hpq h3 h2
    apply BitVec.eq_of_toNat_eq
    have hpos : 0 < p := by rw [hp]; exact Nat.two_pow_pos i
    have hqpos : 0 < q := by omega
    rw [BitVec.toNat_or, BitVec.toNat_ofNat, BitVec.toNat_ofNat, BitVec.toNat_ofNat, Nat.mod_eq_of_lt (by omega), Nat.mod_eq_of_lt (by omega), Nat.mod_eq_of_lt (by omega)]
    have h7 := Nat.div_add_mod a q
    obtain ⟨t, ht⟩ : ∃ t, q * (a / q) = t := ⟨_, rfl⟩
    have htm : t % 2 ^ (i + 1) = 0 := by rw [← ht, ← hq, Nat.mul_mod_right]
    rw [ht] at h7
    have h8 : a % q ||| t = a % q + t := by rw [or_add (i := i + 1) (by rw [← hq]; exact Nat.mod_lt _ hqpos) htm]
    have h9 : a % q ||| p = a % q + p := by rw [or_add (i := i) (by rw [← hp]; exact h3) (by rw [hp, Nat.mod_self])]
    have h10 : (a % q + p) ||| t = a % q + p + t := by rw [or_add (i := i + 1) (by rw [← hq]; omega) htm]
    have h11 : a = a % q ||| t := by rw [h8]; omega
    have h12 : (a % q ||| t) ||| p = (a % q ||| p) ||| t := by rw [Nat.or_assoc, Nat.or_comm t p, ← Nat.or_assoc]
    rw [← h11, h9, h10] at h12
    rw [h12]; omega
  have e : ∀ (a b : Int) (p q i : Nat), 0 ≤ a → a + p < 4294967296 → a % q < p → p = 2 ^ i → q = 2 ^ (i + 1) → q = 2 * p → b = p → BitVec.ofInt 32 a ||| BitVec.ofInt 32 b = BitVec.ofInt 32 (a + b) := by
    intro a b p q i h1 h2 h3 hp hq hpq hb
    obtain ⟨a, rfl⟩ : ∃ k : Nat, a = k := ⟨a.toNat, by omega⟩
    subst hb
    have := e0 a p q i hp hq hpq (by omega) (by omega)
    rw [← BitVec.ofInt_natCast, ← BitVec.ofInt_natCast, ← BitVec.ofInt_natCast] at this
    rw [this]; congr 1
  have h0 : m.acc 0 = BitVec.ofInt 32 (256 * m.page + 1) := first_bits h
  have h1 : m.acc 1 = BitVec.ofInt 32 (256 * m.page + 1 + (if m.sec then 2 else 0)) := by
    show (if m.bit 0 then m.acc 0 ||| bitK 0 else m.acc 0) = _
    rw [h0]; show (if m.sec then _ else _) = _
    cases m.sec
    · simp
    · simp only [if_true]; exact e _ 2 2 4 1 (by omega) (by omega) (by omega) rfl rfl rfl rfl
  have h2 : m.acc 2 = BitVec.ofInt 32 (256 * m.page + 1 + (if m.sec then 2 else 0) + (if m.wr then 4 else 0)) := by
    show (if m.bit 1 then m.acc 1 ||| bitK 1 else m.acc 1) = _
    rw [h1]; show (if m.wr then _ else _) = _
    cases m.wr
    · simp
    · simp only [if_true]; exact e _ 4 4 8 2 (by split <;> omega) (by split <;> omega) (by split <;> omega) rfl rfl rfl rfl
  show (if m.bit 2 then m.acc 2 ||| bitK 2 else m.acc 2) = _
  rw [h2]; show (if m.ex then _ else _) = _
  unfold PMap.bits
  cases m.ex
  · simp
  · simp only [if_true]; exact e _ 8 8 16 3 (by split <;> split <;> omega) (by split <;> split <;> omega) (by split <;> split <;> omega) rfl rfl rfl rfl
def guess2 (w : W) : PMap := ⟨decide ((w.toNat : Int) / 2 % 2 = 1), (w.toNat : Int) / 256, decide ((w.toNat : Int) / 4 % 2 = 1), decide ((w.toNat : Int) / 8 % 2 = 1)⟩
theorem and_bit {w : W} {k : Nat} {c : W} (hc : c = BitVec.twoPow 32 k) (hk : BitVec.twoPow 32 k ≠ 0#32) : decide (w &&& c ≠ 0#32) = decide ((w.toNat : Int) / ((2 ^ k : Nat) : Int) % 2 = 1) := by
  apply decide_eq_decide.2
  rw [hc, BitVec.and_twoPow]
  have h1 : w.getLsbD k = decide (w.toNat / 2 ^ k % 2 = 1) := Nat.testBit_eq_decide_div_mod_eq
  rw [h1]
  by_cases h : w.toNat / 2 ^ k % 2 = 1
  · simp only [h, decide_true, if_true]
    exact ⟨fun _ => by exact_mod_cast h, fun _ => hk⟩
  · simp only [h, decide_false]
    exact ⟨fun h2 => absurd rfl h2, fun h2 => absurd (by exact_mod_cast h2) h⟩
theorem guess2_bits {w : W} : (⟨decide (w &&& 2#32 ≠ 0#32), ((w >>> 8).toNat : Int), decide (w &&& 4#32 ≠ 0#32), decide (w &&& 8#32 ≠ 0#32)⟩ : PMap) = guess2 w := by
  unfold guess2
  rw [and_bit (k := 1) (by decide) (by decide), and_bit (k := 2) (by decide) (by decide), and_bit (k := 3) (by decide) (by decide), shr_int]; rfl
def parseSecond (w : W) : PMap × Int := if w = 0#32 then (PMap.zero, 92) else if (second (guess2 w)).2 ≠ 0 ∨ (second (guess2 w)).1 ≠ w then (PMap.zero, 90) else (guess2 w, 0)
/-! the walk -/
def tableM (M : Mem) (l1 i : Int) : Int × Int :=
  if M.errW true l1 i ≠ 0 then (0, M.errW true l1 i) else if (parseFirst (M.peek true l1 i)).2 = 0 ∧ ¬ M.has true (parseFirst (M.peek true l1 i)).1 then (0, 90) else parseFirst (M.peek true l1 i)
def placeM (M : Mem) (l2 j : Int) : PMap × Int :=
  if M.errW true l2 j ≠ 0 then (PMap.zero, M.errW true l2 j) else if (parseSecond (M.peek true l2 j)).2 = 0 ∧ ¬ M.has (parseSecond (M.peek true l2 j)).1.sec (parseSecond (M.peek true l2 j)).1.page then (PMap.zero, 90) else parseSecond (M.peek true l2 j)
def walkM (M : Mem) (l1 : Int) (va : W) : PMap × Int :=
  if vaE va ≠ 0 then (PMap.zero, vaE va) else if (tableM M l1 (vaI va)).2 ≠ 0 then (PMap.zero, (tableM M l1 (vaI va)).2) else placeM M (tableM M l1 (vaI va)).1 (vaJ va)
def PMap.lets (m : PMap) (a : Int) : Prop := a = 0 ∨ (a = 1 ∧ m.wr = true) ∨ (a = 2 ∧ m.ex = true)
instance (m : PMap) (a : Int) : Decidable (m.lets a) := by unfold PMap.lets; infer_instance
structure Tr where
  sec : Bool
  page : Int
  off : Int
  err : Int
def transM (M : Mem) (l1 : Int) (va : W) (a : Int) : Tr :=
  if (walkM M l1 va).2 ≠ 0 then ⟨false, 0, 0, (walkM M l1 va).2⟩ else if (walkM M l1 va).1.lets a then ⟨(walkM M l1 va).1.sec, (walkM M l1 va).1.page, vaO va, 0⟩ else ⟨false, 0, 0, 93⟩
theorem first_val {p : Int} (h : 0 ≤ p ∧ p < 64) : (first p).1.toNat = 256 * p.toNat + 1 := by
  rw [first, if_pos h]; simp only; rw [toNat_ofInt_lt ⟨by omega, by omega⟩]; omega
theorem parseFirst_hit {w : W} {p : Nat} (h1 : ¬ w = 0#32) (hp : p < 64) (h : (first (p : Int)).1 = w) : parseFirst w = ((p : Int), 0) := by
  have h2 := first_val (p := (p : Int)) ⟨by omega, by omega⟩
  rw [h] at h2
  rw [parseFirst, if_neg h1, if_pos ⟨by omega, by omega⟩, h2]
  congr 1; omega
theorem parseFirst_miss {w : W} (h1 : ¬ w = 0#32) (h : ∀ p : Nat, p < 64 → (first (p : Int)).1 ≠ w) : parseFirst w = (0, 90) := by
  rw [parseFirst, if_neg h1, if_neg]
  rintro ⟨h2, h3⟩
  apply h (w.toNat / 256) (by omega)
  apply BitVec.eq_of_toNat_eq
  rw [first_val ⟨by omega, by omega⟩]; omega
theorem parseFirst_pos {w : W} : 0 ≤ (parseFirst w).1 := by
  unfold parseFirst; split
  · decide
  · split
    · show (0 : Int) ≤ (w.toNat : Int) / 256; omega
    · decide
theorem has_sec {M : Mem} {p : Int} : M.has true p ↔ 0 ≤ p ∧ p < M.sec.length := Iff.rfl
theorem walkM_va {M : Mem} {l1 : Int} {va : W} (h : vaE va ≠ 0) : walkM M l1 va = (PMap.zero, vaE va) := by rw [walkM, if_pos h]
theorem walkM_l1 {M : Mem} {l1 : Int} {va : W} (h : ¬ vaE va ≠ 0) (h2 : ¬ M.has true l1) : walkM M l1 va = (PMap.zero, 5) := by
  have e : tableM M l1 (vaI va) = (0, 5) := by rw [tableM, errW_page h2]; rfl
  rw [walkM, if_neg h, e]; rfl
theorem errW_in {M : Mem} {s : Bool} {p o : Int} (h : M.has s p) (ho : 0 ≤ o ∧ o < 1024) : M.errW s p o = 0 := errW_zero.2 ⟨h, ho⟩
theorem walkM_pf {M : Mem} {l1 : Int} {va : W} (h : ¬ vaE va ≠ 0) (h2 : M.has true l1) (h3 : (parseFirst (M.peek true l1 (vaI va))).2 ≠ 0) : walkM M l1 va = (PMap.zero, (parseFirst (M.peek true l1 (vaI va))).2) := by
  have hi := @vaI_lt va
  have e : tableM M l1 (vaI va) = parseFirst (M.peek true l1 (vaI va)) := by rw [tableM, errW_in h2 (by omega), if_neg (by decide), if_neg (fun c => h3 c.1)]
  rw [walkM, if_neg h, e, if_pos h3]
theorem walkM_l2 {M : Mem} {l1 : Int} {va : W} (h : ¬ vaE va ≠ 0) (h2 : M.has true l1) (h3 : ¬ (parseFirst (M.peek true l1 (vaI va))).2 ≠ 0) (h4 : ¬ M.has true (parseFirst (M.peek true l1 (vaI va))).1) : walkM M l1 va = (PMap.zero, 90) := by
  have hi := @vaI_lt va
  have e : tableM M l1 (vaI va) = (0, 90) := by rw [tableM, errW_in h2 (by omega), if_neg (by decide), if_pos ⟨Classical.byContradiction h3, h4⟩]
  rw [walkM, if_neg h, e]; rfl
theorem walkM_in {M : Mem} {l1 : Int} {va : W} (h : ¬ vaE va ≠ 0) (h2 : M.has true l1) (h3 : ¬ (parseFirst (M.peek true l1 (vaI va))).2 ≠ 0) (h4 : M.has true (parseFirst (M.peek true l1 (vaI va))).1) :
    walkM M l1 va = if (parseSecond (M.peek true (parseFirst (M.peek true l1 (vaI va))).1 (vaJ va))).2 = 0 ∧ ¬ M.has (parseSecond (M.peek true (parseFirst (M.peek true l1 (vaI va))).1 (vaJ va))).1.sec (parseSecond (M.peek true (parseFirst (M.peek true l1 (vaI va))).1 (vaJ va))).1.page then (PMap.zero, 90) else parseSecond (M.peek true (parseFirst (M.peek true l1 (vaI va))).1 (vaJ va)) := by
  have hi := @vaI_lt va; have hj := @vaJ_lt va
  have e : tableM M l1 (vaI va) = parseFirst (M.peek true l1 (vaI va)) := by rw [tableM, errW_in h2 (by omega), if_neg (by decide), if_neg (fun c => c.2 h4)]
  rw [walkM, if_neg h, e, if_neg h3, placeM, errW_in h4 (by omega), if_neg (by decide)]
theorem parseSecond_err {w : W} (h : (parseSecond w).2 ≠ 0) : (parseSecond w).1 = PMap.zero := by
  unfold parseSecond at h ⊢
  split at h
  · rename_i h1; rw [if_pos h1]
  · rename_i h1; rw [if_neg h1]
    split at h
    · rename_i h2; rw [if_pos h2]
    · exact absurd rfl h
theorem pair_eta {α β : Type} {p : α × β} {a : α} (h : p.1 = a) : p = (a, p.2) := by cases p; simp at h; rw [h]
theorem bit_cells {x : PMap} {i : Nat} (hi : i < 3) : (([.bool x.sec, w32 2#32, .bool x.wr, w32 4#32, .bool x.ex, w32 8#32] : List Value).drop (0 + i * 2)).take 2 = [.bool (x.bit i), w32 (bitK i)] := by
  have h : i = 0 ∨ i = 1 ∨ i = 2 := by omega
  rcases h with rfl | rfl | rfl <;> rfl
theorem tableM_tk {M : Mem} {n : Nat} {a b : Int} : tableM (M.tk n) a b = tableM M a b := by simp only [tableM, Mem.tk_errW, Mem.tk_peek, Mem.tk_has]
theorem placeM_tk {M : Mem} {n : Nat} {a b : Int} : placeM (M.tk n) a b = placeM M a b := by simp only [placeM, Mem.tk_errW, Mem.tk_peek, Mem.tk_has]
theorem walkM_tk {M : Mem} {n : Nat} {a : Int} {b : W} : walkM (M.tk n) a b = walkM M a b := by simp only [walkM, tableM_tk, placeM_tk]
theorem transM_tk {M : Mem} {n : Nat} {a c : Int} {b : W} : transM (M.tk n) a b c = transM M a b c := by simp only [transM, walkM_tk]
end Go.Wd
