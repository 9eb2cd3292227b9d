/- PROVED HERE: rules of assertions with a footprint, and of the model's operations over them. No condition beyond each theorem's own. -/
import Derived.Test.YtkpomphooljgmaaGreatDoorBase
import Derived.Laws.BitsAllLaws
import Derived.Laws.AppendOwn
import Derived.IntWalk
namespace Go.Wd
open Go

/-! ### words of 32 bits -/
theorem ofInt32 (a : BitVec 32) : BitVec.ofInt IntKind.u32.bits (a.toNat : Int) = a := by
  show BitVec.ofInt 32 (a.toNat : Int) = a
  apply BitVec.eq_of_toNat_eq; simp
theorem wrap32_of (n : Int) : IntKind.u32.wrap n = n % 4294967296 := IntKind.wrap_u32 n
theorem wrap32_toNat (a : BitVec 32) : IntKind.u32.wrap (a.toNat : Int) = a.toNat := by
  rw [wrap32_of]; have := a.isLt; omega
theorem wrap32_bv (n : Nat) : IntKind.u32.wrap (n : Int) = (BitVec.ofNat 32 n).toNat := by
  rw [wrap32_of]; simp

section
variable {P : Program} {H : List Assn} {s : Slots} {x y : Operand} {T yT : Nat} {a b : BitVec 32}
theorem Val.add32 (hx : ev s x = some (w32 a)) (hy : ev s y = some (w32 b)) : Val P H s (.binOp .add T x y yT) (w32 (a + b)) := by
  have := Val.add (P := P) (H := H) (T := T) (yT := yT) hx hy
  have e : IntKind.u32.wrap ((a.toNat : Int) + b.toNat) = ((a + b).toNat : Int) := by rw [wrap32_of, BitVec.toNat_add]; omega
  rwa [e] at this
theorem Val.sub32 (hx : ev s x = some (w32 a)) (hy : ev s y = some (w32 b)) : Val P H s (.binOp .sub T x y yT) (w32 (a - b)) := by
  have := Val.sub (P := P) (H := H) (T := T) (yT := yT) hx hy
  have e : IntKind.u32.wrap ((a.toNat : Int) - b.toNat) = ((a - b).toNat : Int) := by rw [wrap32_of, BitVec.toNat_sub]; have := b.isLt; omega
  rwa [e] at this
theorem Val.mul32 (hx : ev s x = some (w32 a)) (hy : ev s y = some (w32 b)) : Val P H s (.binOp .mul T x y yT) (w32 (a * b)) := by
  have := Val.mul (P := P) (H := H) (T := T) (yT := yT) hx hy
  have e : IntKind.u32.wrap ((a.toNat : Int) * b.toNat) = ((a * b).toNat : Int) := by
    rw [wrap32_of, BitVec.toNat_mul]
    have : (a.toNat : Int) * b.toNat = ((a.toNat * b.toNat : Nat) : Int) := by simp
    rw [this]; omega
  rwa [e] at this
theorem bits_run {op : BinOp} {r : BitVec 32} (w : World) (h : (Op.intBits op .u32 (a.toNat : Int) (b.toNat : Int)).run P w = .ok (w32 r) w) (ho : op = .and ∨ op = .or ∨ op = .xor ∨ op = .andNot) :
    (do eqGuard op T x y (w32 a) (w32 b); binOp op T (w32 a) (w32 b) : Sem Value).run P w = .ok (w32 r) w := by
  rcases ho with rfl | rfl | rfl | rfl <;> simp [Sem.run_bind, eqGuard_int, binOp, Result.andThen, h]
theorem Val.and32 (hx : ev s x = some (w32 a)) (hy : ev s y = some (w32 b)) : Val P H s (.binOp .and T x y yT) (w32 (a &&& b)) :=
  Val.bin hx hy fun w => bits_run w (by simp only [Op.intBits, ofInt32]; exact congrArg (fun v => Result.ok (Value.int .u32 v) w) (wrap32_toNat _)) (by simp)
theorem Val.or32 (hx : ev s x = some (w32 a)) (hy : ev s y = some (w32 b)) : Val P H s (.binOp .or T x y yT) (w32 (a ||| b)) :=
  Val.bin hx hy fun w => bits_run w (by simp only [Op.intBits, ofInt32]; exact congrArg (fun v => Result.ok (Value.int .u32 v) w) (wrap32_toNat _)) (by simp)
theorem Val.xor32 (hx : ev s x = some (w32 a)) (hy : ev s y = some (w32 b)) : Val P H s (.binOp .xor T x y yT) (w32 (a ^^^ b)) :=
  Val.bin hx hy fun w => bits_run w (by simp only [Op.intBits, ofInt32]; exact congrArg (fun v => Result.ok (Value.int .u32 v) w) (wrap32_toNat _)) (by simp)
theorem Val.andNot32 (hx : ev s x = some (w32 a)) (hy : ev s y = some (w32 b)) : Val P H s (.binOp .andNot T x y yT) (w32 (a &&& ~~~b)) :=
  Val.bin hx hy fun w => bits_run w (by simp only [Op.intBits, ofInt32]; exact congrArg (fun v => Result.ok (Value.int .u32 v) w) (wrap32_toNat _)) (by simp)
theorem Val.not32 (hx : ev s x = some (w32 a)) : Val P H s (.unOp .xor T x) (w32 (~~~a)) := fun n ac w hs _ o ho => by
  unfold execOp; rw [ho]; simp only [hs.ev hx]
  refine run_v ?_
  have e : BitVec.ofInt IntKind.u32.bits (if IntKind.u32.signed = true then -1 else IntKind.u32.max) = BitVec.allOnes 32 := by rfl
  have h1 : (BitVec.allOnes 32 ^^^ a) = ~~~a := by rw [BitVec.xor_comm, BitVec.xor_allOnes]
  have h2 : IntKind.u32.wrap ((BitVec.allOnes 32 ^^^ a).toNat : Int) = ((~~~a).toNat : Int) := by rw [h1]; exact wrap32_toNat _
  have h3 : (Op.intBits .xor .u32 (if IntKind.u32.signed = true then -1 else IntKind.u32.max) (a.toNat : Int)).run P w = .ok (w32 (~~~a)) w := by
    simp only [Op.intBits, ofInt32, e]
    exact congrArg (fun v => Result.ok (Value.int .u32 v) w) h2
  exact h3
/-- a shift by a constant -/
theorem Val.shl32 {ky : IntKind} {k : Nat} (hk : k ≤ 32) (hx : ev s x = some (w32 a)) (hy : ev s y = some (.int ky (k : Int))) : Val P H s (.binOp .shl T x y yT) (w32 (a <<< k)) :=
  Val.bin hx hy fun w => by
    have e : IntKind.u32.wrap ((a.toNat : Int) * 2 ^ k) = ((a <<< k).toNat : Int) := by
      rw [wrap32_of, BitVec.toNat_shiftLeft, Nat.shiftLeft_eq]; simp
    have : min k IntKind.u32.bits = k := Nat.min_eq_left hk
    simp [eqGuard, binOp, Op.shift, Result.andThen, this, e]
theorem Val.shr32 {ky : IntKind} {k : Nat} (hk : k ≤ 32) (hx : ev s x = some (w32 a)) (hy : ev s y = some (.int ky (k : Int))) : Val P H s (.binOp .shr T x y yT) (w32 (a >>> k)) :=
  Val.bin hx hy fun w => by
    have e : (a.toNat : Int).fdiv (2 ^ k) = ((a >>> k).toNat : Int) := by
      have h0 : (2 : Int) ^ k = ((2 ^ k : Nat) : Int) := by simp
      rw [BitVec.toNat_ushiftRight, Nat.shiftRight_eq_div_pow, h0, Int.fdiv_eq_ediv_of_nonneg _ (Int.natCast_nonneg _)]; rfl
    have h1 : min k IntKind.u32.bits = k := Nat.min_eq_left hk
    have h2 : ¬ ((k : Int) < 0) := by omega
    have h3 : (Op.shift .shr .u32 (a.toNat : Int) ky (k : Int)).run P w = .ok (w32 (a >>> k)) w := by
      simp only [Op.shift, if_neg h2, Int.toNat_natCast, h1, e]; rfl
    simp only [eqGuard, binOp, Sem.run_bind]; exact h3
theorem Val.eql32 (hx : ev s x = some (w32 a)) (hy : ev s y = some (w32 b)) : Val P H s (.binOp .eql T x y yT) (.bool (decide (a = b))) := by
  have := Val.eql (P := P) (H := H) (T := T) (yT := yT) hx hy
  have e : decide ((a.toNat : Int) = b.toNat) = decide (a = b) := by
    rw [decide_eq_decide]; constructor
    · intro h; exact BitVec.eq_of_toNat_eq (by omega)
    · rintro rfl; rfl
  rwa [e] at this
theorem Val.neq32 (hx : ev s x = some (w32 a)) (hy : ev s y = some (w32 b)) : Val P H s (.binOp .neq T x y yT) (.bool (decide (a ≠ b))) := by
  have := Val.neq (P := P) (H := H) (T := T) (yT := yT) hx hy
  have e : decide ((a.toNat : Int) ≠ b.toNat) = decide (a ≠ b) := by
    rw [decide_eq_decide]; constructor
    · rintro h rfl; exact h rfl
    · intro h h'; exact h (BitVec.eq_of_toNat_eq (by omega))
  rwa [e] at this
theorem Val.lss32 (hx : ev s x = some (w32 a)) (hy : ev s y = some (w32 b)) : Val P H s (.binOp .lss T x y yT) (.bool (decide (a.toNat < b.toNat))) := by
  have := Val.lss (P := P) (H := H) (T := T) (yT := yT) hx hy
  have e : decide ((a.toNat : Int) < b.toNat) = decide (a.toNat < b.toNat) := by rw [decide_eq_decide]; omega
  rwa [e] at this
theorem Val.leq32 (hx : ev s x = some (w32 a)) (hy : ev s y = some (w32 b)) : Val P H s (.binOp .leq T x y yT) (.bool (decide (a.toNat ≤ b.toNat))) := by
  have := Val.leq (P := P) (H := H) (T := T) (yT := yT) hx hy
  have e : decide ((a.toNat : Int) ≤ b.toNat) = decide (a.toNat ≤ b.toNat) := by rw [decide_eq_decide]; omega
  rwa [e] at this
theorem Val.gtr32 (hx : ev s x = some (w32 a)) (hy : ev s y = some (w32 b)) : Val P H s (.binOp .gtr T x y yT) (.bool (decide (b.toNat < a.toNat))) := by
  have := Val.gtr (P := P) (H := H) (T := T) (yT := yT) hx hy
  have e : decide ((b.toNat : Int) < a.toNat) = decide (b.toNat < a.toNat) := by rw [decide_eq_decide]; omega
  rwa [e] at this
theorem Val.geq32 (hx : ev s x = some (w32 a)) (hy : ev s y = some (w32 b)) : Val P H s (.binOp .geq T x y yT) (.bool (decide (b.toNat ≤ a.toNat))) := by
  have := Val.geq (P := P) (H := H) (T := T) (yT := yT) hx hy
  have e : decide ((b.toNat : Int) ≤ a.toNat) = decide (b.toNat ≤ a.toNat) := by rw [decide_eq_decide]; omega
  rwa [e] at this
end

/-! ### division of an int -/
section
variable {P : Program} {H : List Assn} {s : Slots} {x y : Operand} {T yT : Nat} {a b : Int}
theorem Val.remT (hx : ev s x = some (.int .i64 a)) (hy : ev s y = some (.int .i64 b)) (hb : b ≠ 0) : Val P H s (.binOp .rem T x y yT) (.int .i64 (a.tmod b)) :=
  Val.bin hx hy fun w => by simp [eqGuard_int, binOp, Op.intDiv, Result.andThen, hb]
theorem Val.rem64 (hx : ev s x = some (.int .i64 a)) (hy : ev s y = some (.int .i64 b)) (hb : 0 ≤ a ∧ 0 < b) : Val P H s (.binOp .rem T x y yT) (.int .i64 (a % b)) := by
  have := Val.remT (P := P) (H := H) (T := T) (yT := yT) hx hy (by omega)
  rwa [Int.tmod_eq_emod_of_nonneg hb.1] at this
theorem Val.quo64 (hx : ev s x = some (.int .i64 a)) (hy : ev s y = some (.int .i64 b)) (hb : 0 ≤ a ∧ 0 < b ∧ a ≤ 9223372036854775807) : Val P H s (.binOp .quo T x y yT) (.int .i64 (a / b)) :=
  Val.bin hx hy fun w => by
    have h1 : b ≠ 0 := by omega
    have e : a.tdiv b = a / b := Int.tdiv_eq_ediv_of_nonneg hb.1
    have h2 : 0 ≤ a / b := Int.ediv_nonneg hb.1 (by omega)
    have h3 : a / b ≤ a := Int.ediv_le_self _ hb.1
    simp [eqGuard_int, binOp, Op.intDiv, Result.andThen, h1, e, wrap_i64 (a := a / b) (by omega) (by omega)]
end

/-! ### conversions -/
section
variable {P : Program} {H : List Assn} {s : Slots} {x : Operand} {S D : Nat}
theorem Val.conv {k k' : IntKind} {n : Int} {d : TypeDesc} (hS : P.underlying S = some d) (hD : P.underlying D = some (.int k')) (hx : ev s x = some (.int k n)) : Val P H s (.convert S D x) (.int k' (k'.wrap n)) := fun _ ac w hs _ o ho => by
  unfold execOp; rw [ho]; simp only [hs.ev hx]
  refine run_v ?_
  simp [convert, Sem.run_bind, run_underlying hS, run_underlying hD, Result.andThen, Conv.intToInt]
theorem Val.conv_32_64 {a : BitVec 32} {d : TypeDesc} (hS : P.underlying S = some d) (hD : P.underlying D = some (.int .i64)) (hx : ev s x = some (w32 a)) : Val P H s (.convert S D x) (.int .i64 (a.toNat : Int)) := by
  have := Val.conv (H := H) hS hD hx
  rwa [wrap_i64 (by omega) (by have := a.isLt; omega)] at this
theorem Val.conv_64_32 {n : Int} {d : TypeDesc} (hS : P.underlying S = some d) (hD : P.underlying D = some (.int .u32)) (hx : ev s x = some (.int .i64 n)) : Val P H s (.convert S D x) (w32 (BitVec.ofInt 32 n)) := by
  have := Val.conv (H := H) hS hD hx
  have e : IntKind.u32.wrap n = ((BitVec.ofInt 32 n).toNat : Int) := by rw [wrap32_of, BitVec.toNat_ofInt]; omega
  rwa [e] at this
end

/-! ### pointers and nil -/
section
variable {P : Program} {H : List Assn} {s : Slots} {x y : Operand} {T yT E : Nat}
theorem equal_ptr_nil {p : Option Addr} (hT : P.underlying T = some (.pointer E)) (w : World) : (Op.equal T (.pointer p) (.pointer none)).run P w = .ok p.isNone w := by
  unfold Op.equal
  rw [show Op.maxDepth = 9999 + 1 from rfl]
  generalize 9999 = d
  cases p <;> simp [Op.equalIn, Sem.run_bind, run_underlying hT, Result.andThen]
theorem Val.eqlNil {p : Option Addr} (hT : P.underlying T = some (.pointer E)) (hx : ev s x = some (.pointer p)) (hy : ev s y = some (.pointer none)) : Val P H s (.binOp .eql T x y yT) (.bool p.isNone) :=
  Val.bin hx hy fun w => by simp [eqGuard, binOp, equal_ptr_nil hT, Result.andThen]
theorem Val.neqNil {p : Option Addr} (hT : P.underlying T = some (.pointer E)) (hx : ev s x = some (.pointer p)) (hy : ev s y = some (.pointer none)) : Val P H s (.binOp .neq T x y yT) (.bool (!p.isNone)) :=
  Val.bin hx hy fun w => by simp [eqGuard, binOp, equal_ptr_nil hT, Result.andThen]
end

/-! ### what a function hands back -/
inductive ResL (P : Program) (L : List Assn) (s : Slots) : List ResultVar → List Value → Prop
  | nil : ResL P L s [] []
  | tmp {r : Nat} {v : Value} {rs : List ResultVar} {vs : List Value} (h : lk s r = some v) (h' : ResL P L s rs vs) : ResL P L s (.tmp r :: rs) (v :: vs)
  | cell {r T b off T' : Nat} {l : List Value} {v : Value} {L' : List Assn} {rs : List ResultVar} {vs : List Value} (ht : ∀ w, (isAgg T).run P w = .ok false w) (hx : lk s r = some (.pointer (some ⟨b, off, none⟩)))
      (hm : Take L (.row b l T') L') (hc : l[off]? = some v) (h' : ResL P L s rs vs) : ResL P L s (.cell r T :: rs) (v :: vs)
  | agg {r T b off T' k : Nat} {l us : List Value} {L' : List Assn} {rs : List ResultVar} {vs : List Value} (ht : ∀ w, (isAgg T).run P w = .ok true w) (hz : ∀ w, (sizeOf T).run P w = .ok k w)
      (hx : lk s r = some (.pointer (some ⟨b, off, none⟩))) (hm : Take L (.row b l T') L') (hc : (l.drop off).take k = us) (hk : us.length = k) (h' : ResL P L s rs vs) : ResL P L s (.cell r T :: rs) (.agg us.toArray :: vs)

theorem loadVar_row {P : Program} {T b off T' : Nat} {l : List Value} {v : Value} {w : World} (ht : ∀ w, (isAgg T).run P w = .ok false w) (hb : w.heap[b]? = some (.cells l.toArray T')) (hc : l[off]? = some v) : (loadVar T ⟨b, off, none⟩).run P w = .ok v w := by
  simp only [loadVar, Sem.run_bind, Result.andThen, ht, run_load, row_cell hb, hc, Bool.false_eq_true, if_false]
theorem loadVar_agg {P : Program} {T b off T' k : Nat} {l us : List Value} {w : World} (ht : ∀ w, (isAgg T).run P w = .ok true w) (hz : ∀ w, (sizeOf T).run P w = .ok k w) (hb : w.heap[b]? = some (.cells l.toArray T')) (hc : (l.drop off).take k = us)
    (hk : us.length = k) : (loadVar T ⟨b, off, none⟩).run P w = .ok (.agg us.toArray) w := by
  have h1 := run_loadCells_list (P := P) w ⟨b, off, none⟩ us (fun j v hj => by
    rw [add_none, row_cell hb]
    rw [← hc] at hj
    rw [List.getElem?_take] at hj
    split at hj
    · rw [List.getElem?_drop] at hj; exact hj
    · cases hj)
  rw [hk] at h1
  simp only [loadVar, Sem.run_bind, Sem.run_pure, Result.andThen, ht, hz, if_true, h1]

def resOne (a : Act) : ResultVar → Sem Value
  | .tmp t => pure (a.tmps.getD t undef)
  | .cell ad t => do loadVar t (← asAddr (a.tmps.getD ad undef))

theorem ResL.run {P : Program} {L : List Assn} {s : Slots} {n : Nat} {a : Act} {w : World} (ha : Sl n s a) (hw : Facts L w) {rs : List ResultVar} {vs : List Value} (h : ResL P L s rs vs) :
    (rs.mapM (resOne a)).run P w = .ok vs w := by
  induction h with
  | nil => rfl
  | tmp h _ ih =>
    have e := ha.ev (x := .tmp _) h
    simp only [Act.eval] at e
    simp only [List.mapM_cons, resOne, Sem.run_bind, Sem.run_pure, Result.andThen, e, ih]
  | cell ht hx hm hc _ ih =>
    have e := ha.ev (x := .tmp _) hx
    simp only [Act.eval] at e
    have hb := (hw.get hm).blk
    simp only [List.mapM_cons, resOne, Sem.run_bind, Sem.run_pure, Result.andThen, e, asAddr, loadVar_row ht hb hc, ih]
  | agg ht hz hx hm hc hk _ ih =>
    have e := ha.ev (x := .tmp _) hx
    simp only [Act.eval] at e
    have hb := (hw.get hm).blk
    simp only [List.mapM_cons, resOne, Sem.run_bind, Sem.run_pure, Result.andThen, e, asAddr, loadVar_agg ht hz hb hc hk, ih]

def tup : List Value → Value
  | [v] => v
  | vs => .tuple vs.toArray

theorem results_run {P : Program} {L : List Assn} {s : Slots} {n : Nat} {a : Act} {w : World} {fn : Func} (ha : Sl n s a) (hw : Facts L w) {rs : List ResultVar} {vs : List Value} (hr : fn.results = rs.toArray) (h : ResL P L s rs vs) :
    (results fn a.tmps).run P w = .ok (tup vs) w := by
  have h1 := h.run ha hw
  have h0 : results fn a.tmps = (do let us ← fn.results.mapM (resOne a); pure (if h : us.size = 1 then us[0] else .tuple us)) := rfl
  have h2 : (rs.toArray.mapM (resOne a)).run P w = .ok vs.toArray w := by
    rw [List.mapM_toArray, Sem.run_map, h1]; rfl
  rw [h0, hr, Sem.run_bind, h2]
  simp only [Result.andThen]
  cases vs with
  | nil => rfl
  | cons v vs => cases vs <;> simp [tup]

theorem TQ.ret {P : Program} {n : Nat} {σ : Env} {R : Assn} {s : Slots} {L : List Assn} {fn : Func} {X : Type} {q : X → Prop} {ret : X → Value} {post : X → List Assn} {rs : List ResultVar} {vs : List Value}
    (hr : fn.results = rs.toArray) (h : ResL P L s rs vs) (x : X) (hx : ret x = tup vs) (hq : q x) (hL : Ent L (post x)) : TQ n σ R (bodyPost P fn (Ret σ R q ret post)) .ret s L := fun _ w ha hw =>
  ⟨ha.defers, tup vs, results_run ha hw.facts hr h, x, by rw [hx], hq, hL _ _ _ hw⟩
end Go.Wd
