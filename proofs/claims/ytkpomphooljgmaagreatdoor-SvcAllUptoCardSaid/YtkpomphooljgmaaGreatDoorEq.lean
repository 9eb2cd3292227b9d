/- PROVED HERE: equality of structures and arrays of the model. No condition beyond each theorem's own. -/
import Derived.Test.YtkpomphooljgmaaGreatDoorBase4
import Derived.ChangeKeysEq
import Derived.Laws.StructEq
namespace Go.Wd
open Go
noncomputable local instance (priority := 10000) eqDec (xs ys : List Value) : Decidable (xs = ys) := Classical.propDecidable _
/-- the cells xs of type T are compared with ys, whole -/
def EqOk (P : Program) (d T : Nat) (xs ys : List Value) : Prop :=
  ∃ x y, xs.length = P.cellsOf T ∧ ys.length = P.cellsOf T ∧ (∀ pre post w, (part T (pre ++ xs ++ post).toArray pre.length).run P w = .ok x w) ∧ (∀ pre post w, (part T (pre ++ ys ++ post).toArray pre.length).run P w = .ok y w)
    ∧ ∀ w, (Op.equalIn d T x y).run P w = .ok (decide (xs = ys)) w

theorem cellsOf_of {P : Program} {T z : Nat} {i : TypeInfo} (hi : P.info? T = some i) (hz : ∀ w, (sizeOf T).run P w = .ok z w) : P.cellsOf T = z := by
  have := hz default
  rw [run_sizeOf default hi] at this
  simpa using this
theorem part_cell {P : Program} {T : Nat} {x : Value} (ha : ∀ w, (isAgg T).run P w = .ok false w) (pre post : List Value) (w : World) : (part T (pre ++ [x] ++ post).toArray pre.length).run P w = .ok x w := by
  simp [part, Sem.run_bind, ha, Result.andThen]
theorem part_agg {P : Program} {T z : Nat} {xs : List Value} (ha : ∀ w, (isAgg T).run P w = .ok true w) (hz : ∀ w, (sizeOf T).run P w = .ok z w) (hx : xs.length = z) (pre post : List Value) (w : World) :
    (part T (pre ++ xs ++ post).toArray pre.length).run P w = .ok (.agg xs.toArray) w := by
  simp only [part, Sem.run_bind, ha, Result.andThen, hz, if_true, Sem.run_pure]
  congr 2
  simp [List.extract_toArray, List.extract_eq_take_drop, Nat.add_sub_cancel_left, ← hx, List.append_assoc]
theorem EqOk.int {P : Program} {d T : Nat} {k : IntKind} {a b : Int} {i : TypeInfo} (hu : P.underlying T = some (.int k)) (hi : ∀ w, (typeInfo T).run P w = .ok i w) (ha : ∀ w, (isAgg T).run P w = .ok false w) (hz : ∀ w, (sizeOf T).run P w = .ok 1 w) : EqOk P (d + 1) T [.int k a] [.int k b] :=
  ⟨.int k a, .int k b, by rw [cellsOf_of (info_of hi) hz]; rfl, by rw [cellsOf_of (info_of hi) hz]; rfl, part_cell ha, part_cell ha, fun w => by
    rw [run_equalIn_int (P := P) w d T k k a b hu]
    congr 1
    by_cases h : a = b <;> simp [h]⟩
theorem EqOk.bool {P : Program} {d T : Nat} {a b : Bool} {i : TypeInfo} (hu : P.underlying T = some .bool) (hi : ∀ w, (typeInfo T).run P w = .ok i w) (ha : ∀ w, (isAgg T).run P w = .ok false w) (hz : ∀ w, (sizeOf T).run P w = .ok 1 w) : EqOk P (d + 1) T [.bool a] [.bool b] :=
  ⟨.bool a, .bool b, by rw [cellsOf_of (info_of hi) hz]; rfl, by rw [cellsOf_of (info_of hi) hz]; rfl, part_cell ha, part_cell ha, fun w => by
    rw [run_equalIn_bool (P := P) w d T a b hu]
    congr 1
    by_cases h : a = b <;> simp [h]⟩

theorem run_eqItems_flat {P : Program} {d E c : Nat} (hc : P.cellsOf E = c) : ∀ (l : List (List Value × List Value)) (pre pre' post post' : List Value), pre.length = pre'.length → ∀ j, pre.length = j * c → (∀ p ∈ l, EqOk P d E p.1 p.2) → ∀ w,
    (Op.eqItems d E c (pre ++ (l.map Prod.fst).flatten ++ post).toArray (pre' ++ (l.map Prod.snd).flatten ++ post').toArray (List.range' j l.length)).run P w = .ok (decide ((l.map Prod.fst).flatten = (l.map Prod.snd).flatten)) w
  | [], pre, pre', post, post', hp, j, hj, h, w => by simp [Op.eqItems]
  | (xs, ys) :: l, pre, pre', post, post', hp, j, hj, h, w => by
    obtain ⟨x, y, h1, h2, h3, h4, h5⟩ := h (xs, ys) (by simp)
    simp only [List.map_cons, List.flatten_cons, List.length_cons, List.range'_succ, Op.eqItems, Sem.run_bind]
    have e1 := h3 pre ((l.map Prod.fst).flatten ++ post) w
    have e2 := h4 pre' ((l.map Prod.snd).flatten ++ post') w
    rw [← hp, hj] at e2
    rw [hj] at e1
    simp only at h1 h2
    simp only [List.append_assoc] at e1 e2 ⊢
    simp only [e1, e2, Result.andThen_ok, h5]
    have hl : xs.length = ys.length := by rw [h1, h2]
    by_cases he : xs = ys
    · subst he
      have ih := run_eqItems_flat hc l (pre ++ xs) (pre' ++ xs) post post' (by simp [hp]) (j + 1) (by simp [hj, h1, hc, Nat.add_mul]) (fun p hp => h p (by simp [hp])) w
      simp only [List.append_assoc] at ih
      simp only [decide_true, Bool.not_true, Bool.false_eq_true, if_false, ih]
      exact congrArg (Result.ok · w) (by simp)
    · have : ¬ (xs ++ (l.map Prod.fst).flatten = ys ++ (l.map Prod.snd).flatten) := fun h => he (List.append_inj h hl).1
      simp only [he, decide_false, Bool.not_false, if_true, Sem.run_pure]
      exact congrArg (Result.ok · w) (by simpa using this : decide ((((xs, ys) :: l).map Prod.fst).flatten = (((xs, ys) :: l).map Prod.snd).flatten) = false).symm

theorem EqOk.array {P : Program} {d T E n z : Nat} {i j : TypeInfo} (hu : P.underlying T = some (.array n E)) (hi : ∀ w, (typeInfo E).run P w = .ok i w) (hj : ∀ w, (typeInfo T).run P w = .ok j w) (ha : ∀ w, (isAgg T).run P w = .ok true w)
    (hz : ∀ w, (sizeOf T).run P w = .ok z w) (l : List (List Value × List Value)) (hl : l.length = n) (hx : ((l.map Prod.fst).flatten).length = z) (hy : ((l.map Prod.snd).flatten).length = z) (h : ∀ p ∈ l, EqOk P d E p.1 p.2) :
    EqOk P (d + 1) T (l.map Prod.fst).flatten (l.map Prod.snd).flatten :=
  ⟨_, _, by rw [cellsOf_of (info_of hj) hz, hx], by rw [cellsOf_of (info_of hj) hz, hy], part_agg ha hz hx, part_agg ha hz hy, fun w => by
    rw [run_equalIn_array w d _ _ hu (info_of hi)]
    have := run_eqItems_flat (P := P) (d := d) (E := E) rfl l [] [] [] [] rfl 0 (by simp) h w
    simpa [List.range_eq_range', hl] using this⟩

/-- the fields from the offset k on -/
inductive EqFs (P : Program) (d : Nat) : List Field → Nat → List Value → List Value → Prop
  | nil {k : Nat} : EqFs P d [] k [] []
  | cons {f : Field} {fs : List Field} {k k' : Nat} {xs ys us vs : List Value} (hn : f.name ≠ "_") (hk : f.offset = k) (h : EqOk P d f.type xs ys) (hk' : xs.length + k = k') (hr : EqFs P d fs k' us vs) : EqFs P d (f :: fs) k (xs ++ us) (ys ++ vs)
theorem EqFs.run {P : Program} {d : Nat} : ∀ {fs : List Field} {k : Nat} {xs ys : List Value}, EqFs P d fs k xs ys → ∀ (pre pre' : List Value), pre.length = k → pre'.length = k → ∀ w,
    (Op.eqFields d (pre ++ xs).toArray (pre' ++ ys).toArray fs).run P w = .ok (decide (xs = ys)) w
  | _, _, _, _, .nil, pre, pre', h1, h2, w => by simp [Op.eqFields]
  | _, _, _, _, @EqFs.cons _ _ f fs k k' xs ys us vs hn hk h hk' hr, pre, pre', h1, h2, w => by
    obtain ⟨x, y, l1, l2, h3, h4, h5⟩ := h
    have e1 := h3 pre us w
    have e2 := h4 pre' vs w
    rw [h1] at e1; rw [h2] at e2
    have ih := hr.run (pre ++ xs) (pre' ++ ys) (by simp [h1]; omega) (by simp [h2]; omega) w
    simp only [List.append_assoc] at e1 e2 ih ⊢
    simp only [Op.eqFields, hn, ne_eq, not_false_eq_true, if_true, Sem.run_bind, hk, e1, e2, Result.andThen_ok, h5]
    by_cases he : xs = ys
    · subst he
      simp only [decide_true, Bool.not_true, Bool.false_eq_true, if_false, ih, List.append_cancel_left_eq]
    · have : ¬ (xs ++ us = ys ++ vs) := fun h => he (List.append_inj h (by rw [l1, l2])).1
      simp only [he, this, decide_false, Bool.not_false, if_true, Sem.run_pure]
theorem EqOk.struct {P : Program} {d T z : Nat} {fs : Array Field} {j : TypeInfo} {xs ys : List Value} (hu : P.underlying T = some (.struct fs)) (hh : P.stoodInHeld T = false) (hj : ∀ w, (typeInfo T).run P w = .ok j w) (ha : ∀ w, (isAgg T).run P w = .ok true w)
    (hz : ∀ w, (sizeOf T).run P w = .ok z w) (hx : xs.length = z) (hy : ys.length = z) (h : EqFs P d fs.toList 0 xs ys) : EqOk P (d + 1) T xs ys :=
  ⟨_, _, by rw [cellsOf_of (info_of hj) hz, hx], by rw [cellsOf_of (info_of hj) hz, hy], part_agg ha hz hx, part_agg ha hz hy, fun w => by
    have hf : P.fieldsOf T = fs := by simp [Program.fieldsOf, hu]
    rw [run_equalIn_struct w d T _ _ (by rw [hf]; exact hu) hh, hf]
    exact h.run [] [] rfl rfl w⟩

theorem EqOk.agg {P : Program} {d T : Nat} {xs ys : List Value} (ha : ∀ w, (isAgg T).run P w = .ok true w) {z : Nat} (hz : ∀ w, (sizeOf T).run P w = .ok z w) {i : TypeInfo} (hi : ∀ w, (typeInfo T).run P w = .ok i w) (h : EqOk P d T xs ys) (w : World) : (Op.equalIn d T (.agg xs.toArray) (.agg ys.toArray)).run P w = .ok (decide (xs = ys)) w := by
  obtain ⟨x, y, h1, h2, h3, h4, h5⟩ := h
  have hc := cellsOf_of (info_of hi) hz
  have a1 := h3 [] [] w
  have a2 := h4 [] [] w
  have b1 := part_agg ha hz (h1.trans hc) [] [] w
  have b2 := part_agg ha hz (h2.trans hc) [] [] w
  rw [a1] at b1; rw [a2] at b2
  cases b1; cases b2
  exact h5 w

section
variable {P : Program} {H : List Assn} {s : Slots}
theorem Val.eqlAgg {T yT z : Nat} {x y : Operand} {xs ys : List Value} {r : Bool} {i : TypeInfo} (hg : P.eqGuardType P.depth T = false) (ha : ∀ w, (isAgg T).run P w = .ok true w) (hz : ∀ w, (sizeOf T).run P w = .ok z w) (hi : ∀ w, (typeInfo T).run P w = .ok i w)
    (hx : ev s x = some (.agg xs.toArray)) (hy : ev s y = some (.agg ys.toArray)) (h : EqOk P 10000 T xs ys) (hr : r = true ↔ xs = ys) : Val P H s (.binOp .eql T x y yT) (.bool r) :=
  Val.bin hx hy fun w => by
    simp only [Sem.run_bind, run_eqGuard_agg w .eql T x y _ _ hg, Result.andThen, run_eql_struct, h.agg ha hz hi]
    congr 2
    cases r <;> simp_all
theorem Val.neqAgg {T yT z : Nat} {x y : Operand} {xs ys : List Value} {r : Bool} {i : TypeInfo} (hg : P.eqGuardType P.depth T = false) (ha : ∀ w, (isAgg T).run P w = .ok true w) (hz : ∀ w, (sizeOf T).run P w = .ok z w) (hi : ∀ w, (typeInfo T).run P w = .ok i w)
    (hx : ev s x = some (.agg xs.toArray)) (hy : ev s y = some (.agg ys.toArray)) (h : EqOk P 10000 T xs ys) (hr : r = true ↔ xs ≠ ys) : Val P H s (.binOp .neq T x y yT) (.bool r) :=
  Val.bin hx hy fun w => by
    simp only [Sem.run_bind, run_eqGuard_agg w .neq T x y _ _ hg, Result.andThen, run_neq_struct, h.agg ha hz hi]
    congr 2
    by_cases h : xs = ys <;> cases r <;> simp_all
end
/-- the cells are the same ones -/
noncomputable def leqV (xs ys : List Value) : Bool := decide (xs = ys)
@[simp] theorem leqV_iff {xs ys : List Value} : leqV xs ys = true ↔ xs = ys := by simp [leqV]
@[simp] theorem leqV_iff' {xs ys : List Value} : leqV xs ys = false ↔ ¬ xs = ys := by simp [leqV]
section
variable {P : Program} {H : List Assn} {s : Slots}
theorem Val.eqlAg {T yT z : Nat} {x y : Operand} {xs ys : List Value} {i : TypeInfo} (hg : P.eqGuardType P.depth T = false) (ha : ∀ w, (isAgg T).run P w = .ok true w) (hz : ∀ w, (sizeOf T).run P w = .ok z w) (hi : ∀ w, (typeInfo T).run P w = .ok i w)
    (hx : ev s x = some (.agg xs.toArray)) (hy : ev s y = some (.agg ys.toArray)) (h : EqOk P 10000 T xs ys) : Val P H s (.binOp .eql T x y yT) (.bool (leqV xs ys)) := Val.eqlAgg hg ha hz hi hx hy h leqV_iff
theorem Val.neqAg {T yT z : Nat} {x y : Operand} {xs ys : List Value} {i : TypeInfo} (hg : P.eqGuardType P.depth T = false) (ha : ∀ w, (isAgg T).run P w = .ok true w) (hz : ∀ w, (sizeOf T).run P w = .ok z w) (hi : ∀ w, (typeInfo T).run P w = .ok i w)
    (hx : ev s x = some (.agg xs.toArray)) (hy : ev s y = some (.agg ys.toArray)) (h : EqOk P 10000 T xs ys) : Val P H s (.binOp .neq T x y yT) (.bool (!leqV xs ys)) := Val.neqAgg hg ha hz hi hx hy h (by simp)
end
end Go.Wd
