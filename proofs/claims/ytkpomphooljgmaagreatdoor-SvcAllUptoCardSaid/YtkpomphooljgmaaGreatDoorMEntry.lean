/- PROVED HERE: the plain law: what the functions compute, with no program in sight. No condition beyond each theorem's own. -/
import Derived.Test.YtkpomphooljgmaaGreatDoorModel
import Derived.Test.YtkpomphooljgmaaGreatDoorEq
namespace Go.Wd
open Go
theorem w32s_inj {a b : List W} : w32s a = w32s b ↔ a = b := by
  constructor
  · intro h
    exact List.map_inj_right (f := w32) (fun x y h => by injection h with _ h; exact BitVec.eq_of_toNat_eq (by omega)) |>.1 h
  · rintro rfl; rfl
theorem w32_inj {a b : W} : w32 a = w32 b ↔ a = b := by
  constructor
  · intro h; injection h with _ h; exact BitVec.eq_of_toNat_eq (by omega)
  · rintro rfl; rfl
theorem EqOk.words {P : Program} {d T E n : Nat} {i j : TypeInfo} (hu : P.underlying T = some (.array n E)) (hE : P.underlying E = some (.int .u32)) (hi : ∀ w, (typeInfo E).run P w = .ok i w) (haE : ∀ w, (isAgg E).run P w = .ok false w) (hzE : ∀ w, (sizeOf E).run P w = .ok 1 w)
    (hj : ∀ w, (typeInfo T).run P w = .ok j w) (ha : ∀ w, (isAgg T).run P w = .ok true w) (hz : ∀ w, (sizeOf T).run P w = .ok n w) (a b : List W) (hla : a.length = n) (hlb : b.length = n) : EqOk P (d + 2) T (w32s a) (w32s b) := by
  have e1 : ((a.zip b).map fun p => ([w32 p.1], [w32 p.2])).map Prod.fst = a.map fun x => [w32 x] := by
    rw [List.map_map]
    have : (Prod.fst ∘ fun p : W × W => ([w32 p.1], [w32 p.2])) = (fun x => [w32 x]) ∘ Prod.fst := rfl
    rw [this, ← List.map_map, List.map_fst_zip (by omega)]
  have e2 : ((a.zip b).map fun p => ([w32 p.1], [w32 p.2])).map Prod.snd = b.map fun x => [w32 x] := by
    rw [List.map_map]
    have : (Prod.snd ∘ fun p : W × W => ([w32 p.1], [w32 p.2])) = (fun x => [w32 x]) ∘ Prod.snd := rfl
    rw [this, ← List.map_map, List.map_snd_zip (by omega)]
  have f1 : ∀ l : List W, (l.map fun x => [w32 x]).flatten = w32s l := fun l => by induction l <;> simp_all [w32s]
  have := EqOk.array (d := d + 1) hu hi hj ha hz ((a.zip b).map fun p => ([w32 p.1], [w32 p.2])) (by simp; omega) (by rw [e1, f1, w32s_length, hla]) (by rw [e2, f1, w32s_length, hlb]) (by
    intro p hp
    obtain ⟨q, _, rfl⟩ := List.mem_map.1 hp
    exact EqOk.int hE hi haE hzE)
  rwa [e1, e2, f1, f1] at this

theorem or_add {i a b : Nat} (h : a < 2 ^ i) (hb : b % 2 ^ i = 0) : a ||| b = a + b := by
  obtain ⟨c, rfl⟩ : ∃ c, b = 2 ^ i * c := ⟨b / 2 ^ i, by have := Nat.div_add_mod b (2 ^ i); omega⟩
  rw [Nat.or_comm, ← Nat.two_pow_add_eq_or_of_lt h, Nat.add_comm]
theorem toNat_ofInt_lt {a : Int} (h : 0 ≤ a ∧ a < 4294967296) : (BitVec.ofInt 32 a).toNat = a.toNat := by
  rw [BitVec.toNat_ofInt]; omega
/-! what is kept of a page -/
structure Ety where
  ty : Int
  own : Int
  refs : Int
  st : Int
  ent : Bool
deriving DecidableEq
abbrev Ety.cells (e : Ety) : List Value := [.int .i64 e.ty, .int .i64 e.own, .int .i64 e.refs, .int .i64 e.st, .bool e.ent]
abbrev Ety.val (e : Ety) : Value := .agg e.cells.toArray
theorem Ety.cells_inj {e f : Ety} : e.cells = f.cells ↔ e = f := by
  cases e; cases f; simp [Ety.cells]
def Ety.free : Ety := ⟨0, 0, 0, 0, false⟩
def Ety.ok (e : Ety) : Prop :=
  0 ≤ e.ty ∧ e.ty ≤ 6 ∧ 0 ≤ e.own ∧ e.own ≤ 63 ∧ 0 ≤ e.refs ∧ e.refs ≤ 63 ∧ (e.ty = 0 → e.own = 0) ∧ (e.ty ≠ 1 → e.refs = 0 ∧ e.st = 0) ∧ (e.ty = 1 → 1 ≤ e.st ∧ e.st ≤ 3) ∧ (e.ent = true → e.ty = 2)
instance (e : Ety) : Decidable e.ok := by unfold Ety.ok; infer_instance
def Ety.check (e : Ety) : Int := if e.ok then 0 else 110
def Ety.w0 (e : Ety) : W := BitVec.ofInt 32 (e.ty + 16 * e.st + (if e.ent then 256 else 0) + 65536 * e.own)
def Ety.w1 (e : Ety) : W := BitVec.ofInt 32 e.refs
def Ety.e0 (e : Ety) : W := if e.ok then e.w0 else 0
def Ety.e1 (e : Ety) : W := if e.ok then e.w1 else 0
abbrev Ety.enc (e : Ety) : List W := [e.e0, e.e1]
def Ety.split (a b : W) : Ety := ⟨a.toNat % 8, a.toNat / 65536 % 64, b.toNat % 64, a.toNat / 16 % 4, decide ((a.toNat : Int) / 256 % 2 = 1)⟩
def Ety.dec (a b : W) : Ety × Int := if (Ety.split a b).ok ∧ (Ety.split a b).w0 = a ∧ (Ety.split a b).w1 = b then (Ety.split a b, 0) else (.free, 110)
theorem Ety.dec_enc {e : Ety} (h : e.ok) : Ety.dec e.w0 e.w1 = (e, 0) := by
  obtain ⟨ty, own, refs, st, ent⟩ := e
  have hs : Ety.split (Ety.w0 ⟨ty, own, refs, st, ent⟩) (Ety.w1 ⟨ty, own, refs, st, ent⟩) = ⟨ty, own, refs, st, ent⟩ := by
    have h' := h
    unfold Ety.ok at h'
    simp only at h'
    have hst : 0 ≤ st ∧ st ≤ 3 := by by_cases h1 : ty = 1 <;> simp_all <;> omega
    obtain ⟨h1, h2, h3, h4, h5, h6, _⟩ := h'
    unfold Ety.split Ety.w0 Ety.w1
    simp only [BitVec.toNat_ofInt]
    cases ent <;> simp only [Bool.false_eq_true, if_false, if_true, Ety.mk.injEq] <;> refine ⟨by omega, by omega, by omega, by omega, ?_⟩ <;> simp <;> omega
  unfold Ety.dec
  rw [hs, if_pos ⟨h, rfl, rfl⟩]
theorem Ety.ok_st {e : Ety} (h : e.ok) : 0 ≤ e.st ∧ e.st ≤ 3 := by
  obtain ⟨ty, own, refs, st, ent⟩ := e
  unfold Ety.ok at h
  simp only at h ⊢
  by_cases h1 : ty = 1 <;> simp_all <;> omega
theorem Ety.w0_bits {e : Ety} (h : e.ok) : ((BitVec.ofInt 32 e.ty <<< 0 ||| BitVec.ofInt 32 e.st <<< 4) ||| BitVec.ofInt 32 e.own <<< 16) ||| (if e.ent then 256#32 else 0#32) = e.w0 := by
  have hst := Ety.ok_st h
  obtain ⟨h1, h2, h3, h4, h5, h6, _⟩ := h
  apply BitVec.eq_of_toNat_eq
  have a1 := toNat_ofInt_lt (a := e.ty) (by omega)
  have a2 := toNat_ofInt_lt (a := e.st) (by omega)
  have a3 := toNat_ofInt_lt (a := e.own) (by omega)
  have b2 : (BitVec.ofInt 32 e.st <<< 4).toNat = e.st.toNat * 16 := by rw [BitVec.toNat_shiftLeft, a2, Nat.shiftLeft_eq]; omega
  have b3 : (BitVec.ofInt 32 e.own <<< 16).toNat = e.own.toNat * 65536 := by rw [BitVec.toNat_shiftLeft, a3, Nat.shiftLeft_eq]; omega
  have b1 : (BitVec.ofInt 32 e.ty <<< 0).toNat = e.ty.toNat := by rw [BitVec.toNat_shiftLeft, a1, Nat.shiftLeft_eq]; omega
  have c1 : e.ty.toNat ||| e.st.toNat * 16 = e.ty.toNat + e.st.toNat * 16 := or_add (i := 4) (by omega) (by omega)
  have c2 : (e.ty.toNat + e.st.toNat * 16) ||| e.own.toNat * 65536 = e.ty.toNat + e.st.toNat * 16 + e.own.toNat * 65536 := or_add (i := 16) (by omega) (by omega)
  have c3 : (e.ty.toNat + e.st.toNat * 16 + e.own.toNat * 65536) ||| (if e.ent then 256 else 0) = e.ty.toNat + e.st.toNat * 16 + e.own.toNat * 65536 + (if e.ent then 256 else 0) := by
    cases e.ent
    · simp
    · simp only [if_true]
      have d1 : e.ty.toNat + e.st.toNat * 16 + e.own.toNat * 65536 = (e.ty.toNat + e.st.toNat * 16) ||| e.own.toNat * 65536 := c2.symm
      rw [d1, Nat.or_assoc, Nat.or_comm (e.own.toNat * 65536), or_add (i := 16) (a := 256) (by omega) (by omega), ← or_add (i := 16) (a := 256) (by omega) (by omega), ← Nat.or_assoc, or_add (i := 8) (b := 256) (by omega) (by omega), or_add (i := 16) (by omega) (by omega)]
      rw [or_add (i := 16) (a := e.ty.toNat + e.st.toNat * 16) (by omega) (by omega)]
      omega
  have e3 : (if e.ent then 256#32 else 0#32).toNat = (if e.ent then 256 else 0) := by cases e.ent <;> rfl
  simp only [BitVec.toNat_or, b1, b2, b3, e3, c1, c2, c3]
  unfold Ety.w0
  rw [BitVec.toNat_ofInt]
  cases e.ent <;> simp <;> omega
theorem Ety.split_bits {a b : W} : Ety.split a b = ⟨(a >>> 0 &&& 7#32).toNat, (a >>> 16 &&& 63#32).toNat, (b &&& 63#32).toNat, (a >>> 4 &&& 3#32).toNat, decide ((a >>> 8 &&& 1#32) = 1#32)⟩ := by
  have m : ∀ (x : W) (k : Nat), (x &&& BitVec.ofNat 32 (2 ^ k - 1)).toNat = x.toNat % 2 ^ k := fun x k => by
    rw [BitVec.toNat_and, BitVec.toNat_ofNat]
    by_cases hk : k ≤ 32
    · rw [Nat.mod_eq_of_lt (by have := Nat.pow_le_pow_right (n := 2) (by omega) hk; have : 0 < 2 ^ k := Nat.pos_of_ne_zero (by simp); omega), Nat.and_two_pow_sub_one_eq_mod]
    · have h1 := x.isLt
      have h2 : 2 ^ 32 ≤ 2 ^ k := Nat.pow_le_pow_right (by omega) (by omega)
      have h3 : (2 ^ k - 1) % 2 ^ 32 = 2 ^ 32 - 1 := by
        obtain ⟨j, rfl⟩ : ∃ j, k = 32 + j := ⟨k - 32, by omega⟩
        have : 0 < 2 ^ j := Nat.pos_of_ne_zero (by simp)
        obtain ⟨m, hm⟩ : ∃ m, 2 ^ j = m + 1 := ⟨2 ^ j - 1, by omega⟩
        rw [Nat.pow_add, hm]
        omega
      rw [h3, Nat.and_two_pow_sub_one_eq_mod, Nat.mod_eq_of_lt h1, Nat.mod_eq_of_lt (by omega)]
  have s : ∀ (x : W) (k : Nat), (x >>> k).toNat = x.toNat / 2 ^ k := fun x k => by rw [BitVec.toNat_ushiftRight, Nat.shiftRight_eq_div_pow]
  unfold Ety.split
  rw [Ety.mk.injEq]
  have m3 := m (a >>> 0) 3; have m6 := m (a >>> 16) 6; have n6 := m b 6; have m2 := m (a >>> 4) 2; have m1 := m (a >>> 8) 1
  rw [s] at m3 m6 m2 m1
  refine ⟨?_, ?_, ?_, ?_, ?_⟩
  · rw [show (a >>> 0 &&& 7#32).toNat = a.toNat / 2 ^ 0 % 2 ^ 3 from m3]; simp
  · rw [show (a >>> 16 &&& 63#32).toNat = a.toNat / 2 ^ 16 % 2 ^ 6 from m6]; simp
  · rw [show (b &&& 63#32).toNat = b.toNat % 2 ^ 6 from n6]; simp
  · rw [show (a >>> 4 &&& 3#32).toNat = a.toNat / 2 ^ 4 % 2 ^ 2 from m2]; simp
  · rw [decide_eq_decide]
    constructor
    · intro h; apply BitVec.eq_of_toNat_eq; exact m1.trans (by show a.toNat / 256 % 2 = 1; omega)
    · intro h; have : a.toNat / 2 ^ 8 % 2 ^ 1 = 1 := by rw [← m1]; exact congrArg BitVec.toNat h
      omega
theorem Ety.enc_bad {e : Ety} (h : e.check ≠ 0) : e.enc = [0#32, 0#32] ∧ e.check = 110 := by
  unfold Ety.check Ety.enc Ety.e0 Ety.e1 at *
  split at h
  · exact absurd rfl h
  · rename_i h1; simp [h1]
theorem Ety.check_zero {e : Ety} : e.check = 0 ↔ e.ok := by
  unfold Ety.check; split <;> simp_all
theorem Ety.enc_good {e : Ety} (h : e.check = 0) : e.enc = [((BitVec.ofInt 32 e.ty <<< 0 ||| BitVec.ofInt 32 e.st <<< 4) ||| BitVec.ofInt 32 e.own <<< 16) ||| (if e.ent then 256#32 else 0#32), BitVec.ofInt 32 e.refs] := by
  have := Ety.check_zero.1 h
  rw [Ety.w0_bits this]
  simp [Ety.enc, Ety.e0, Ety.e1, this, Ety.w1]
theorem Ety.enc_len {e : Ety} : e.enc.length = 2 := rfl
theorem Ety.dec_split {a b : W} : Ety.dec a b = if (Ety.split a b).check ≠ 0 ∨ (Ety.split a b).enc ≠ [a, b] then (.free, 110) else (Ety.split a b, 0) := by
  unfold Ety.dec Ety.check Ety.enc Ety.e0 Ety.e1
  by_cases h : (Ety.split a b).ok
  · simp only [h, if_true, true_and, ne_eq, not_true, false_or, List.cons.injEq, and_true]
    by_cases h2 : (Ety.split a b).w0 = a ∧ (Ety.split a b).w1 = b
    · simp [h2]
    · simp [h2]
  · simp [h]
theorem leqV_enc {e : Ety} {a b : W} : leqV [w32 e.e0, w32 e.e1] [w32 a, w32 b] = decide (e.enc = [a, b]) := by
  rw [Bool.eq_iff_iff, leqV_iff, decide_eq_true_iff]
  exact w32s_inj (a := [e.e0, e.e1]) (b := [a, b])
theorem Ety.dec_bad {a b : W} {e : Ety} (he : Ety.split a b = e) (h : (decide (e.check ≠ 0) || !leqV [w32 e.e0, w32 e.e1] [w32 a, w32 b]) = true) : Ety.dec a b = (.free, 110) := by
  rw [leqV_enc] at h
  rw [Ety.dec_split, he, if_pos]
  simp only [Bool.or_eq_true, decide_eq_true_eq, Bool.not_eq_true', decide_eq_false_iff_not] at h
  exact h
theorem Ety.dec_good {a b : W} {e : Ety} (he : Ety.split a b = e) (h : (decide (e.check ≠ 0) || !leqV [w32 e.e0, w32 e.e1] [w32 a, w32 b]) = false) : Ety.dec a b = (e, 0) := by
  rw [leqV_enc] at h
  rw [Ety.dec_split, he, if_neg]
  simpa using h
theorem Ety.dec_ok {a b : W} {e : Ety} (h : Ety.dec a b = (e, 0)) : e.ok ∧ e.w0 = a ∧ e.w1 = b := by
  unfold Ety.dec at h
  split at h
  · rename_i h1; cases h; exact h1
  · cases h
end Go.Wd
