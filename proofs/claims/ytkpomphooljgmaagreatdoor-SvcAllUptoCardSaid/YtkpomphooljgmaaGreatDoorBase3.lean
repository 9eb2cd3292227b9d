/- PROVED HERE: rules of assertions with a footprint, and of the model's operations over them. No condition beyond each theorem's own. -/
import Derived.Test.YtkpomphooljgmaaGreatDoorBase2
import Derived.Laws.MakeOwn
namespace Go.Wd
open Go

theorem info_of {P : Program} {E : Nat} {i : TypeInfo} (h : ∀ w, (typeInfo E).run P w = .ok i w) : P.info? E = some i := by
  have h1 := h default
  unfold typeInfo at h1
  simp only [Sem.run_bind, Go.program, Sem.run, Result.andThen] at h1
  cases hi : P.info? E with
  | none => rw [hi] at h1; simp [stuck, Sem.run] at h1
  | some j => rw [hi] at h1; simp at h1; rw [h1]

section
variable {P : Program} {H : List Assn} {s : Slots}
/-- elements of one cell -/
theorem Val.ixSlice1 {x i : Operand} {T E b off k c : Nat} {ki : IntKind} {j : Int} (ht : P.underlying T = some (.slice E)) (hz : ∀ w, (sizeOf E).run P w = .ok 1 w)
    (hx : ev s x = some (.slice (some ⟨b, off, none⟩) k c)) (hi : ev s i = some (.int ki j)) (hj : 0 ≤ j ∧ j < k) : Val P H s (.indexAddr T x i) (.pointer (some ⟨b, off + j.toNat, none⟩)) := by
  have := Val.ixSlice (H := H) ht hz hx hi hj; rwa [Nat.mul_one] at this
theorem Val.ixArr1 {x i : Operand} {T E b off k : Nat} {ki : IntKind} {j : Int} (ht : P.underlying T = some (.array k E)) (hz : ∀ w, (sizeOf E).run P w = .ok 1 w)
    (hx : ev s x = some (.pointer (some ⟨b, off, none⟩))) (hi : ev s i = some (.int ki j)) (hj : 0 ≤ j ∧ j < k) : Val P H s (.indexAddr T x i) (.pointer (some ⟨b, off + j.toNat, none⟩)) := by
  have := Val.ixArr (H := H) ht hz hx hi hj; rwa [Nat.mul_one] at this
end

/-! ### building -/
def evp (s : Slots) : List (Nat × Operand) → Option (List (Nat × Value))
  | [] => some []
  | (i, x) :: xs => match ev s x, evp s xs with
    | some v, some vs => some ((i, v) :: vs)
    | _, _ => none
theorem Sl.evp {n : Nat} {s : Slots} {a : Act} (h : Sl n s a) : ∀ {xs : List (Nat × Operand)} {vs : List (Nat × Value)}, Wd.evp s xs = some vs → xs.map (fun p => (p.1, a.eval p.2)) = vs
  | [], vs, he => by simp [Wd.evp] at he; simp [← he]
  | (i, x) :: xs, vs, he => by
    simp only [Wd.evp] at he
    cases h1 : Wd.ev s x with
    | none => rw [h1] at he; simp at he
    | some v =>
      cases h2 : Wd.evp s xs with
      | none => rw [h1, h2] at he; simp at he
      | some us =>
        rw [h1, h2] at he
        simp only [Option.some.injEq] at he
        subst he
        simp [h.ev h1, Sl.evp h h2]

/-- where the fields of a struct lie: offset and number of cells -/
def Places (P : Program) (T : Nat) (pl : List (Nat × Nat)) : Prop :=
  ∃ fs : Array Field, P.underlying T = some (.struct fs) ∧ ∀ w, (fs.mapM (fun f => do pure (f.offset, ← sizeOf f.type)) : Sem (Array (Nat × Nat))).run P w = .ok pl.toArray w

section
variable {P : Program} {H : List Assn} {s : Slots}
theorem Val.build {T : Nat} {parts : List (Nat × Operand)} {pv : List (Nat × Value)} {z : Value} {pl : List (Nat × Nat)} {cs : List Value} (hz : ∀ w, (zeroValue T).run P w = .ok z w) (hpl : Places P T pl) (hp : evp s parts = some pv)
    (hf : Instr.fill (pl[·]?) z.cells pv = some cs.toArray) : Val P H s (.build T parts.toArray) (.agg cs.toArray) := fun n a w hs _ o ho => by
  obtain ⟨fs, hu, hm⟩ := hpl
  unfold execOp; rw [ho]; simp only
  refine run_v ?_
  have e : (parts.toArray.map fun x => match x with | (i, x) => (i, a.eval x)) = pv.toArray := by
    rw [List.map_toArray]; congr 1; exact hs.evp hp
  rw [e]
  simp only [Instr.build, Sem.run_bind, hz, Result.andThen, run_underlying hu, hm]
  have e2 : (fun x : Nat => pl.toArray[x]?) = (fun x : Nat => pl[x]?) := by funext x; simp
  rw [e2, hf]; rfl
theorem Val.buildArr {T E k z1 : Nat} {parts : List (Nat × Operand)} {pv : List (Nat × Value)} {z : Value} {cs : List Value} (hz : ∀ w, (zeroValue T).run P w = .ok z w) (hu : P.underlying T = some (.array k E)) (hk : ∀ w, (sizeOf E).run P w = .ok z1 w)
    (hp : evp s parts = some pv) (hf : Instr.fill (fun i => some (i * z1, z1)) z.cells pv = some cs.toArray) : Val P H s (.build T parts.toArray) (.agg cs.toArray) := fun n a w hs _ o ho => by
  unfold execOp; rw [ho]; simp only
  refine run_v ?_
  have e : (parts.toArray.map fun x => match x with | (i, x) => (i, a.eval x)) = pv.toArray := by
    rw [List.map_toArray]; congr 1; exact hs.evp hp
  rw [e]
  simp only [Instr.build, Sem.run_bind, hz, Result.andThen, run_underlying hu, hk, hf]; rfl
/-- a field of a struct's value -/
theorem Val.fieldV {T f k FT z : Nat} {x : Operand} {fs : Array Field} {cs us : List Value} (hu : P.underlying T = some (.struct fs)) (hf : (fs[f]?).map (fun x => (x.type, x.offset)) = some (FT, k)) (ha : ∀ w, (isAgg FT).run P w = .ok true w)
    (hz : ∀ w, (sizeOf FT).run P w = .ok z w) (hx : ev s x = some (.agg cs.toArray)) (hc : (cs.drop k).take z = us) : Val P H s (.field T x f) (.agg us.toArray) := fun n a w hs _ o ho => by
  unfold execOp; rw [ho]; simp only [hs.ev hx]
  refine run_v ?_
  cases hg : fs[f]? with
  | none => rw [hg] at hf; cases hf
  | some fld =>
    rw [hg] at hf
    simp only [Option.map_some, Option.some.injEq, Prod.mk.injEq] at hf
    obtain ⟨rfl, rfl⟩ := hf
    simp only [Instr.field, Sem.run_bind, run_underlying hu, Result.andThen, hg, asAgg, Sem.run_pure, part, ha, hz, if_true]
    congr 2
    rw [← hc]; simp [List.extract_toArray, List.extract_eq_take_drop, Nat.add_sub_cancel_left]
theorem Val.fieldC {T f k FT : Nat} {x : Operand} {fs : Array Field} {cs : List Value} {v : Value} (hu : P.underlying T = some (.struct fs)) (hf : (fs[f]?).map (fun x => (x.type, x.offset)) = some (FT, k)) (ha : ∀ w, (isAgg FT).run P w = .ok false w)
    (hx : ev s x = some (.agg cs.toArray)) (hc : cs[k]? = some v) : Val P H s (.field T x f) v := fun n a w hs _ o ho => by
  unfold execOp; rw [ho]; simp only [hs.ev hx]
  refine run_v ?_
  cases hg : fs[f]? with
  | none => rw [hg] at hf; cases hf
  | some fld =>
    rw [hg] at hf
    simp only [Option.map_some, Option.some.injEq, Prod.mk.injEq] at hf
    obtain ⟨rfl, rfl⟩ := hf
    simp [Instr.field, Sem.run_bind, run_underlying hu, Result.andThen, hg, asAgg, part, ha, hc]
/-- an element of an array's value -/
theorem Val.index {T E k : Nat} {x i : Operand} {cs : List Value} {v : Value} {ki : IntKind} {j : Int} (hu : P.underlying T = some (.array k E)) (hz : ∀ w, (sizeOf E).run P w = .ok 1 w) (ha : ∀ w, (isAgg E).run P w = .ok false w)
    (hx : ev s x = some (.agg cs.toArray)) (hi : ev s i = some (.int ki j)) (hj : 0 ≤ j ∧ j < k) (hc : cs[j.toNat]? = some v) : Val P H s (.index T x i) v := fun n a w hs _ o ho => by
  unfold execOp; rw [ho]; simp only [hs.ev hx, hs.ev hi]
  refine run_v ?_
  simp [Instr.index, asIntOf, Sem.run_bind, run_underlying hu, Result.andThen, if_pos hj, hz, part, ha, hc]
theorem Val.makeFunc {fn : Fn} {fs cs : List Operand} {vs us : List Value} (h1 : evs s fs = some vs) (h2 : evs s cs = some us) : Val P H s (.makeFunc fn fs.toArray cs.toArray) (.func fn vs.toArray us.toArray) := fun n a w hs _ o ho => by
  unfold execOp; rw [ho]; simp only [List.map_toArray, hs.evs h1, hs.evs h2]
  exact run_v rfl

/-! slices of slices and arrays -/
theorem Val.sliceLo {T E z b off k c : Nat} {x lo : Operand} {ki : IntKind} {j : Int} (hu : P.underlying T = some (.slice E)) (hz : ∀ w, (sizeOf E).run P w = .ok z w) (hx : ev s x = some (.slice (some ⟨b, off, none⟩) k c)) (hl : ev s lo = some (.int ki j))
    (hj : 0 ≤ j ∧ j ≤ k) (hc : j < c) : Val P H s (.slice T x (some lo) none none) (.slice (some ⟨b, off + j.toNat * z, none⟩) (k - j.toNat) (c - j.toNat)) := fun n a w hs _ o ho => by
  unfold execOp; rw [ho]; simp only [hs.ev hx, Option.map_some, Option.map_none, hs.ev hl]
  refine run_v ?_
  have h1 : c ≠ j.toNat := by omega
  have h2 : 0 ≤ j ∧ j ≤ (k : Int) := hj
  simp [Instr.sliceAt, Instr.slice, Sem.run_bind, run_underlying hu, Result.andThen, Instr.sliceBounds, Instr.sliceBound, asIntOf, if_pos h2, hz, h1, add_none]
theorem Val.sliceHi {T E z b off k c : Nat} {x hi : Operand} {ki : IntKind} {j : Int} (hu : P.underlying T = some (.slice E)) (hz : ∀ w, (sizeOf E).run P w = .ok z w) (hx : ev s x = some (.slice (some ⟨b, off, none⟩) k c)) (hl : ev s hi = some (.int ki j))
    (hj : 0 ≤ j ∧ j ≤ c) : Val P H s (.slice T x none (some hi) none) (.slice (some ⟨b, off, none⟩) j.toNat c) := fun n a w hs _ o ho => by
  unfold execOp; rw [ho]; simp only [hs.ev hx, Option.map_some, Option.map_none, hs.ev hl]
  refine run_v ?_
  obtain ⟨j, rfl⟩ : ∃ k : Nat, j = k := ⟨j.toNat, by omega⟩
  have h2 : j ≤ c := by omega
  by_cases hc : c = 0
  · subst hc
    have : j = 0 := by omega
    subst this
    simp [Instr.sliceAt, Instr.slice, Sem.run_bind, run_underlying hu, Result.andThen, Instr.sliceBounds, Instr.sliceBound, asIntOf, hz]
  · simp [Instr.sliceAt, Instr.slice, Sem.run_bind, run_underlying hu, Result.andThen, Instr.sliceBounds, Instr.sliceBound, asIntOf, h2, hz, hc, add_none]
theorem Val.sliceArr {T E z b off k : Nat} {x : Operand} (hu : P.underlying T = some (.array k E)) (hz : ∀ w, (sizeOf E).run P w = .ok z w) (hx : ev s x = some (.pointer (some ⟨b, off, none⟩))) : Val P H s (.slice T x none none none) (.slice (some ⟨b, off, none⟩) k k) := fun n a w hs _ o ho => by
  unfold execOp; rw [ho]; simp only [hs.ev hx, Option.map_none]
  refine run_v ?_
  by_cases hk : k = 0
  · subst hk; simp [Instr.sliceAt, Instr.sureAddr, Sem.run_bind, run_underlying hu, Result.andThen, Instr.sliceBounds, hz]
  · simp [Instr.sliceAt, Instr.sureAddr, Sem.run_bind, run_underlying hu, Result.andThen, Instr.sliceBounds, hz, hk, add_none]
theorem Val.sliceArrLH {T E z b off k : Nat} {x lo hi : Operand} {ki kj : IntKind} {i j : Int} (hu : P.underlying T = some (.array k E)) (hz : ∀ w, (sizeOf E).run P w = .ok z w) (hx : ev s x = some (.pointer (some ⟨b, off, none⟩)))
    (hl : ev s lo = some (.int ki i)) (hh : ev s hi = some (.int kj j)) (hi1 : 0 ≤ i ∧ i ≤ j.toNat) (hj : 0 ≤ j ∧ j ≤ k) (hik : i < k) :
    Val P H s (.slice T x (some lo) (some hi) none) (.slice (some ⟨b, off + i.toNat * z, none⟩) (j.toNat - i.toNat) (k - i.toNat)) := fun n a w hs _ o ho => by
  unfold execOp; rw [ho]; simp only [hs.ev hx, Option.map_none, Option.map_some, hs.ev hl, hs.ev hh]
  refine run_v ?_
  obtain ⟨j, rfl⟩ : ∃ k : Nat, j = k := ⟨j.toNat, by omega⟩
  obtain ⟨i, rfl⟩ : ∃ k : Nat, i = k := ⟨i.toNat, by omega⟩
  have h1 : k ≠ i := by omega
  have h2 : i ≤ j := by omega
  have h3 : j ≤ k := by omega
  simp [Instr.sliceAt, Instr.sureAddr, Sem.run_bind, run_underlying hu, Result.andThen, Instr.sliceBounds, Instr.sliceBound, asIntOf, hz, h1, h2, h3, add_none]
theorem Val.toArrPtr {T E k m c : Nat} {x : Operand} {p : Option Addr} (hu : P.underlying T = some (.array k E)) (hx : ev s x = some (.slice p m c)) (h : k ≤ m) : Val P H s (.sliceToArrayPointer T x) (.pointer p) := fun n a w hs _ o ho => by
  unfold execOp; rw [ho]; simp only [hs.ev hx]
  refine run_v ?_
  have h1 : ¬ m < k := by omega
  simp [Instr.arrayAt, Sem.run_bind, run_underlying hu, Result.andThen, h1]
end

/-! ### calls of values, new rows -/
section
variable {P : Program} {n : Nat} {σ : Env} {R : Assn} {Q : Exit → Act → World → Prop} {s : Slots} {L L' L'' : List Assn} {ops : Array Oper} {l : List Oper} {ty : Nat} {pos : String} {af : Array Edge}

theorem TL.callV {X : Type} {d f : Nat} {c : Operand} {fs cs : List Value} {args : List Operand} {ats : Array TypeId} {vs : List Value} {pre rest : List Assn} {q : X → Prop} {ret : X → Value} {post : X → List Assn}
    (hv : ev s c = some (.func (.func f) fs.toArray cs.toArray)) (hc : ∀ args w, (callFunc f args).run P w = .ok (.enter f args) w) (ha : evs s args = some vs) (hS : Spec P f (fs ++ vs ++ cs).toArray pre q ret post)
    (hp : Pick L pre rest) (hn : Nat.blt d n = true)
    (h : ∀ x, q x → TL P n σ R ops Q l ((d, ret x) :: s) (post x ++ rest)) : TL P n σ R ops Q (⟨some d, .call ⟨.value c, args.toArray, ats⟩, ty, pos, af, none⟩ :: l) s L := fun a w hs hw =>
  wpList_plain rfl fun K hK => by
    unfold Oper.wp execOp
    have e : fs.toArray ++ vs.toArray ++ cs.toArray = (fs ++ vs ++ cs).toArray := by simp
    simp only [resolve, Deferred.ofValue, hs.ev hv, List.map_toArray, hs.evs ha, Sem.run_bind, Sem.run_pure, Result.andThen, invoke, e, hc]
    rw [Oper.upon_enter]
    refine (hS σ _ w (hw.focus hp)).mono ?_
    rintro e w' ⟨x, rfl, hq, hw'⟩
    exact hK _ _ (h x hq _ _ (hs.put _ hn) hw'.unfocus)

theorem madeCells_one (z : Value) (k : Nat) : madeCells #[z] k = (List.replicate k z).toArray := by
  unfold madeCells
  apply Array.ext'
  apply List.ext_getElem
  · simp
  · intro i h1 h2; simp [Nat.mod_one]

/-- make, elements of one cell -/
theorem TL.make {d T E : Nat} {x y : Operand} {i : TypeInfo} {z : Value} {kl kc : IntKind} {a b : Int} (hu : P.underlying T = some (.slice E)) (hi : ∀ w, (typeInfo E).run P w = .ok i w) (hz : i.zero = some z) (hs1 : i.size = 1) (hz1 : z.cells = #[z])
    (hx : ev s x = some (.int kl a)) (hy : ev s y = some (.int kc b)) (h0 : 0 ≤ a ∧ a ≤ b) (hb : (i.bytes : Int) * b ≤ 281474976710656) (h63 : b ≤ 9223372036854775807) (hn : Nat.blt d n = true)
    (h : ∀ g, TL P n σ R ops Q l ((d, .slice (some ⟨g, 0, none⟩) a.toNat b.toNat) :: s) (.row g (List.replicate b.toNat z) E :: L)) : TL P n σ R ops Q (⟨some d, .makeSlice T x y, ty, pos, af, none⟩ :: l) s L :=
  TL.effNew (v := fun g => .slice (some ⟨g, 0, none⟩) a.toNat b.toNat) (L' := fun g => .row g (List.replicate b.toNat z) E :: L) hn (fun ac w hs hw o ho => by
    refine ⟨w.heap.size, w.alloc (.cells (madeCells z.cells (b.toNat * i.size)) E), ?_, ?_⟩
    · unfold execOp; rw [ho]; simp only [hs.ev hx, hs.ev hy]
      exact run_v (run_make w T E i z hu (info_of hi) hz kl kc a b h0.1 h0.2 hb h63)
    · have e : madeCells z.cells (b.toNat * i.size) = (List.replicate b.toNat z).toArray := by rw [hs1, Nat.mul_one, hz1, madeCells_one]
      rw [e]; exact hw.alloc _) h

theorem TL.buildSlice {d T E k z1 : Nat} {parts : List (Nat × Operand)} {pv : List (Nat × Value)} {z : Value} {zs cs : List Value} (hu : P.underlying T = some (.slice E)) (hk : ∀ w, (sizeOf E).run P w = .ok z1 w) (hz : ∀ w, (zeroValue E).run P w = .ok z w)
    (hp : evp s parts = some pv) (hsz : Nat.ble (k * z1) 16777216 = true) (hpos : Nat.beq (k * z1) 0 = false) (hc : ((Array.range (k * z1)).map fun i => z.cells[i % z.cells.size]!) = zs.toArray)
    (hf : Instr.fill (fun i => some (i * z1, z1)) zs.toArray pv = some cs.toArray) (hn : Nat.blt d n = true)
    (h : ∀ g, TL P n σ R ops Q l ((d, .slice (some ⟨g, 0, none⟩) k k) :: s) (.row g cs E :: L)) : TL P n σ R ops Q (⟨some d, .buildSlice T k parts.toArray, ty, pos, af, none⟩ :: l) s L :=
  TL.effNew (v := fun g => .slice (some ⟨g, 0, none⟩) k k) (L' := fun g => .row g cs E :: L) hn (fun ac w hs hw o ho => by
    refine ⟨w.heap.size, { w with heap := w.heap.push (.cells cs.toArray E) }, ?_, hw.alloc _⟩
    unfold execOp; rw [ho]; simp only
    refine run_v ?_
    have e : (parts.toArray.map fun x => match x with | (i, x) => (i, ac.eval x)) = pv.toArray := by
      rw [List.map_toArray]; congr 1; exact hs.evp hp
    have h1 : ¬ (k * z1 > 2 ^ 24) := by have := Nat.le_of_ble_eq_true hsz; omega
    have h2 : k * z1 ≠ 0 := Nat.ne_of_beq_eq_false hpos
    rw [e]
    simp only [Instr.buildSlice, Sem.run_bind, run_underlying hu, Result.andThen, hk, if_neg h1, if_neg h2, hz, Sem.run_pure, hc, hf, newRow, newObj, Sem.run]) h

/-- what a slice's elements are, in every world with the facts -/
def Cells (P : Program) (H : List Assn) (v : Value) (m : Nat) (us : List Value) : Prop :=
  ∀ w size, Facts H w → us.length = m * size → (Builtin.firstCells size m v).run P w = .ok us.toArray w
theorem Cells.row {H H' : List Assn} {b off m m' c T : Nat} {l us : List Value} (hm : Take H (.row b l T) H') (hc : (l.drop off).take us.length = us) : Cells P H (.slice (some ⟨b, off, none⟩) m' c) m us := fun w size hw hl => by
  have hb := (hw.get hm).blk
  have h1 := run_loadCells_list (P := P) w ⟨b, off, none⟩ us (fun j v hj => by
    rw [add_none, row_cell hb]
    rw [← hc] at hj
    rw [List.getElem?_take] at hj
    split at hj
    · rw [List.getElem?_drop] at hj; exact hj
    · cases hj)
  rw [hl] at h1
  exact h1
end
end Go.Wd
