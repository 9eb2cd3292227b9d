/- PROVED HERE: rules of assertions with a footprint, and of the model's operations over them. No condition beyond each theorem's own. -/
import Derived.Test.YtkpomphooljgmaaGreatDoorBase5
import Derived.Test.YtkpomphooljgmaaGreatDoorModel
namespace Go.Wd
open Go
section
variable {P : Program} {H : List Assn} {s : Slots} {x y : Operand} {T yT : Nat}
theorem Val.neg64 {a : Int} (hx : ev s x = some (.int .i64 a)) (ha : -9223372036854775807 ≤ a ∧ a ≤ 9223372036854775807) : Val P H s (.unOp .neg T x) (.int .i64 (-a)) := fun n ac w hs _ o ho => by
  unfold execOp; rw [ho]; simp only [hs.ev hx]
  refine run_v ?_
  have e : IntKind.i64.wrap (-a) = -a := wrap_i64 (by omega) (by omega)
  have e2 : IntKind.i64.wrap (0 - a) = -a := by rw [Int.zero_sub]; exact e
  simp [Op.unary, Op.intArith, e, e2]
theorem wrap_u64 {a : Int} (h : 0 ≤ a ∧ a < 18446744073709551616) : IntKind.u64.wrap a = a := by
  have := IntKind.wrap_u64 a
  rw [this]; omega
theorem Val.subU64 {a b : Int} (hx : ev s x = some (.int .u64 a)) (hy : ev s y = some (.int .u64 b)) (h : 0 ≤ a - b ∧ a - b < 18446744073709551616) : Val P H s (.binOp .sub T x y yT) (.int .u64 (a - b)) := by
  have := Val.sub (P := P) (H := H) (T := T) (yT := yT) hx hy
  rwa [wrap_u64 h] at this
theorem Val.mulU64 {a b : Int} (hx : ev s x = some (.int .u64 a)) (hy : ev s y = some (.int .u64 b)) (h : 0 ≤ a * b ∧ a * b < 18446744073709551616) : Val P H s (.binOp .mul T x y yT) (.int .u64 (a * b)) := by
  have := Val.mul (P := P) (H := H) (T := T) (yT := yT) hx hy
  rwa [wrap_u64 h] at this
theorem Val.and31 {a : Int} (hx : ev s x = some (.int .u64 a)) (hy : ev s y = some (.int .u64 31)) (h : 0 ≤ a ∧ a < 18446744073709551616) : Val P H s (.binOp .and T x y yT) (.int .u64 (a % 32)) :=
  Val.bin hx hy fun w => by
    obtain ⟨m, rfl⟩ : ∃ m : Nat, a = m := ⟨a.toNat, by omega⟩
    have e : (BitVec.ofInt IntKind.u64.bits (m : Int) &&& BitVec.ofInt IntKind.u64.bits 31).toNat = m % 32 := by
      show (BitVec.ofInt 64 (m : Int) &&& BitVec.ofInt 64 31).toNat = m % 32
      have h1 : (BitVec.ofInt 64 (m : Int)).toNat = m := by rw [BitVec.toNat_ofInt]; omega
      have h2 : (BitVec.ofInt 64 31).toNat = 2 ^ 5 - 1 := by decide
      rw [BitVec.toNat_and, h1, h2, Nat.and_two_pow_sub_one_eq_mod]
    have h3 : (Op.intBits .and .u64 (m : Int) 31).run P w = .ok (.int .u64 ((m : Int) % 32)) w := by
      simp only [Op.intBits]
      have : IntKind.u64.wrap ((BitVec.ofInt IntKind.u64.bits (m : Int) &&& BitVec.ofInt IntKind.u64.bits 31).toNat : Int) = (m : Int) % 32 := by rw [e, wrap_u64 (by omega)]; omega
      exact congrArg (fun v => Result.ok (Value.int .u64 v) w) this
    simp [Sem.run_bind, eqGuard_int, binOp, Result.andThen, h3]
theorem Val.shl32j {ky : IntKind} {a : BitVec 32} {j : Int} (hx : ev s x = some (w32 a)) (hy : ev s y = some (.int ky j)) (hj : 0 ≤ j ∧ j ≤ 32) : Val P H s (.binOp .shl T x y yT) (w32 (a <<< j.toNat)) :=
  Val.shl32 (k := j.toNat) (by omega) hx (by rw [hy]; congr 2; omega)
theorem Val.shr32j {ky : IntKind} {a : BitVec 32} {j : Int} (hx : ev s x = some (w32 a)) (hy : ev s y = some (.int ky j)) (hj : 0 ≤ j ∧ j ≤ 32) : Val P H s (.binOp .shr T x y yT) (w32 (a >>> j.toNat)) :=
  Val.shr32 (k := j.toNat) (by omega) hx (by rw [hy]; congr 2; omega)
theorem Val.conv_i64_u64 {S D : Nat} {n : Int} {d : TypeDesc} (hS : P.underlying S = some d) (hD : P.underlying D = some (.int .u64)) (hx : ev s x = some (.int .i64 n)) : Val P H s (.convert S D x) (.int .u64 (n % 18446744073709551616)) := by
  have := Val.conv (H := H) hS hD hx
  rwa [IntKind.wrap_u64] at this
theorem Val.convSame {S D : Nat} {k : IntKind} {n : Int} {d : TypeDesc} (hS : P.underlying S = some d) (hD : P.underlying D = some (.int k)) (hx : ev s x = some (.int k n)) (h : k.wrap n = n) : Val P H s (.convert S D x) (.int k n) := by
  have := Val.conv (H := H) hS hD hx
  rwa [h] at this
end

/-! ### drawing regions: what is known all along, though something turns -/
def Knows (L H : List Assn) : Prop := ∀ w, Facts L w → Facts H w
theorem Knows.pick {L H rest : List Assn} (h : Pick L H rest) : Knows L H := fun _ hw => hw.pick h
theorem Knows.nil {L : List Assn} : Knows L [] := fun _ hw => hw.pick .nil
theorem Knows.ex {α : Type} {L L' : List Assn} {A : α → Assn} {B : Assn} (x : α) (hm : Take L B L') (hB : B = A x) : Knows L [.ex A] := fun w hw => by
  obtain ⟨F, hF⟩ := hw.get hm
  subst hB
  exact ⟨F, F, fun _ => False, ⟨x, hF⟩, rfl, fun _ _ h => h, by funext b; simp⟩
theorem Knows.exRow {α : Type} {L L' : List Assn} {b T : Nat} {vs : List Value} {l : α → List Value} (x : α) (hm : Take L (.row b vs T) L') (hB : vs = l x) : Knows L [.ex fun y => .row b (l y) T] := Knows.ex (A := fun y => .row b (l y) T) x hm (by rw [hB])
section
variable {P : Program} {n : Nat} {σ : Env} {R : Assn} {Q : Exit → Act → World → Prop} {s : Slots} {L L' : List Assn} {ops : Array Oper}
theorem TC.drawK {id : Nat} {l : List Oper} {H : List Assn} (t : Sch) (hm : P.follows .mixedOrders = true) (hp : Knows L H) (ht : t.ok l.toArray (Array.replicate l.length false) = true) (hs : Region.noSelect l.toArray = true)
    (hl : Nat.ble t.len l.length = true) (h : TS P n σ R H l.toArray Q t s L) : TC P n σ R (.region id l.toArray true) Q s L := fun a w ha hw =>
  wp_region_noPanic (wp_region_held hm (S := Facts H) (by
    have := h (Array.replicate l.length false) l.length ht hs (Nat.le_of_ble_eq_true hl) a { w with drawn := w.drawn + 1 } ha (hw.drew _) ((hp w hw.facts).drew _)
    simpa using this))
theorem TS.backK {H : List Assn} {fuel : Nat} {listed : Array Bool} {t : Sch} (hk : t.ok ops listed = true) (hs : Region.noSelect ops = true) (hl : t.len ≤ fuel) (hp : Knows L H) (h : TS P n σ R H ops Q t s L) :
    TQ n σ R (Back P H ops Q fuel listed) .normal s L := fun a w ha hw => ⟨hp w hw.facts, h listed fuel hk hs hl a w ha hw (hp w hw.facts)⟩
theorem Val.loadEx {α : Type} {x : Operand} {T b off T' : Nat} {l : α → List Value} {v : Value} {H H' : List Assn} (ht : ∀ w, (isAgg T).run P w = .ok false w) (hx : ev s x = some (.pointer (some ⟨b, off, none⟩)))
    (hm : Take H (.ex fun y => .row b (l y) T') H') (hc : ∀ y, (l y)[off]? = some v) : Val P H s (.load T x) v := fun n a w hs hw o ho => by
  obtain ⟨F, y, hF⟩ := hw.get hm
  exact Val.load (H := [.row b (l y) T']) ht hx .here (hc y) n a w hs ⟨F, F, fun _ => False, hF, rfl, fun _ _ h => h, by funext b; simp⟩ o ho
end

/-! ### an array of cells, all of them given -/
def enumL : Nat → List Value → List (Nat × Value)
  | _, [] => []
  | i, u :: us => (i, u) :: enumL (i + 1) us
theorem cell_cells {u : Value} (h : isCell u = true) : u.cells = #[u] := by cases u <;> simp_all [isCell, Value.cells]
theorem fill_enum : ∀ (us zs pre : List Value), zs.length = us.length → us.all isCell = true → Instr.fill (fun i => some (i * 1, 1)) (pre ++ zs).toArray (enumL pre.length us) = some (pre ++ us).toArray
  | [], [], pre, _, _ => rfl
  | u :: us, z :: zs, pre, h, hc => by
    simp only [List.all_cons, Bool.and_eq_true] at hc
    have ih := fill_enum us zs (pre ++ [u]) (by simpa using h) hc.2
    rw [List.length_append] at ih
    have hp : pre.length + 1 ≤ (pre ++ z :: zs).length := by simp
    have e : (pre ++ z :: zs).set pre.length u = pre ++ [u] ++ zs := by simp
    simp only [enumL]
    unfold Instr.fill
    simp only [cell_cells hc.1, Nat.mul_one]
    rw [if_neg (by simp)]
    have e3 : (#[u] : Array Value).zipIdx.foldl (fun cs x => match x with | (c, j) => cs.setIfInBounds (pre.length + j) c) (pre ++ z :: zs).toArray = (pre ++ [u] ++ zs).toArray := by
      simp
    rw [e3]
    simpa using ih
  | [], _ :: _, _, h, _ => by simp at h
  | _ :: _, [], _, h, _ => by simp at h
inductive EvE (s : Slots) : Nat → List (Nat × Operand) → List Value → Prop
  | nil {i : Nat} : EvE s i [] []
  | cons {i : Nat} {x : Operand} {xs : List (Nat × Operand)} {v : Value} {vs : List Value} (h : ev s x = some v) (hr : EvE s (i + 1) xs vs) : EvE s i ((i, x) :: xs) (v :: vs)
theorem EvE.evp {s : Slots} : ∀ {i : Nat} {xs : List (Nat × Operand)} {vs : List Value}, EvE s i xs vs → Wd.evp s xs = some (enumL i vs)
  | _, _, _, .nil => rfl
  | _, _, _, .cons h hr => by simp only [Wd.evp, h, hr.evp, enumL]
theorem Val.buildCells {P : Program} {H : List Assn} {s : Slots} {T E k : Nat} {parts : List (Nat × Operand)} {z : Value} {zs cs : List Value} (hz : ∀ w, (zeroValue T).run P w = .ok z w) (hzs : z.cells = zs.toArray) (hu : P.underlying T = some (.array k E)) (hk : ∀ w, (sizeOf E).run P w = .ok 1 w)
    (hp : EvE s 0 parts cs) (hl : Nat.beq zs.length cs.length = true) (hc : cs.all isCell = true) : Val P H s (.build T parts.toArray) (.agg cs.toArray) :=
  Val.buildArr hz hu hk hp.evp (by rw [hzs]; exact fill_enum cs zs [] (Nat.eq_of_beq_eq_true hl) hc)
/-! ### a struct, its parts laid one by one -/
theorem fold_part (off : Nat) : ∀ (us mid pre post : List Value) (k : Nat), mid.length = us.length → pre.length = off + k → (us.zipIdx k).foldl (fun (cs : Array Value) p => cs.setIfInBounds (off + p.2) p.1) (pre ++ mid ++ post).toArray = (pre ++ us ++ post).toArray
  | [], [], pre, post, k, _, _ => by simp
  | u :: us, z :: mid, pre, post, k, h, hp => by
    have ih := fold_part off us mid (pre ++ [u]) post (k + 1) (by simpa using h) (by simp [hp]; omega)
    simp only [List.zipIdx_cons, List.foldl_cons]
    have e : (pre ++ z :: mid ++ post).toArray.setIfInBounds (off + k) u = (pre ++ [u] ++ mid ++ post).toArray := by rw [← hp]; simp
    rw [e, ih]; simp
  | [], _ :: _, _, _, _, h, _ => by simp at h
  | _ :: _, [], _, _, _, h, _ => by simp at h
theorem fill_part {off : Nat} {us zs : List Value} (h : off + us.length ≤ zs.length) : us.toArray.zipIdx.foldl (fun cs x => match x with | (c, j) => cs.setIfInBounds (off + j) c) zs.toArray = (zs.take off ++ us ++ zs.drop (off + us.length)).toArray := by
  have e : zs = zs.take off ++ (zs.drop off).take us.length ++ zs.drop (off + us.length) := by
    rw [List.append_assoc, ← List.drop_drop, List.take_append_drop, List.take_append_drop]
  have := fold_part off us ((zs.drop off).take us.length) (zs.take off) (zs.drop (off + us.length)) 0 (by simp; omega) (by simp; omega)
  rw [← e] at this
  simpa using this

inductive EvS (s : Slots) (pl : List (Nat × Nat)) : List (Nat × Operand) → List Value → List Value → Prop
  | nil {zs cs : List Value} (h : zs = cs) : EvS s pl [] zs cs
  | cons {i off k : Nat} {x : Operand} {xs : List (Nat × Operand)} {v : Value} {us zs cs : List Value} (hv : ev s x = some v) (hc : v.cells = us.toArray) (hp : pl[i]? = some (off, k)) (hk : us.length = k) (hl : Nat.ble (off + k) zs.length = true)
      (hr : EvS s pl xs (zs.take off ++ us ++ zs.drop (off + k)) cs) : EvS s pl ((i, x) :: xs) zs cs
theorem EvS.fill {s : Slots} {pl : List (Nat × Nat)} : ∀ {xs : List (Nat × Operand)} {zs cs : List Value}, EvS s pl xs zs cs → ∃ pv, Wd.evp s xs = some pv ∧ Instr.fill (pl[·]?) zs.toArray pv = some cs.toArray
  | _, _, _, .nil h => ⟨[], rfl, by rw [h]; rfl⟩
  | _, _, _, @EvS.cons _ _ i off k x xs v us zs cs hv hc hp hk hl hr => by
    obtain ⟨pv, h1, h2⟩ := hr.fill
    subst hk
    have hle := Nat.le_of_ble_eq_true hl
    refine ⟨(i, v) :: pv, by simp only [Wd.evp, hv, h1], ?_⟩
    unfold Instr.fill
    simp only [hp, hc]
    rw [if_neg (by simp; omega), fill_part hle]
    exact h2
theorem Val.buildS {P : Program} {H : List Assn} {s : Slots} {T : Nat} {parts : List (Nat × Operand)} {z : Value} {pl : List (Nat × Nat)} {zs cs : List Value} (hz : ∀ w, (zeroValue T).run P w = .ok z w) (hzs : z.cells = zs.toArray) (hpl : Places P T pl) (hp : EvS s pl parts zs cs) :
    Val P H s (.build T parts.toArray) (.agg cs.toArray) := by
  obtain ⟨pv, h1, h2⟩ := hp.fill
  exact Val.build hz hpl h1 (by rw [hzs]; exact h2)
end Go.Wd
