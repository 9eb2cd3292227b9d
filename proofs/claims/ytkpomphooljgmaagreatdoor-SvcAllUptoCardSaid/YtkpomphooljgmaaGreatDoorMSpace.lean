/- PROVED HERE: the plain law: what the functions compute, with no program in sight. No condition beyond each theorem's own. -/
import Derived.Test.YtkpomphooljgmaaGreatDoorMWalk
namespace Go.Wd
open Go
theorem Spec.use {P : Program} {f : FuncId} {args : Array Value} {pre L rest : List Assn} {X : Type} {q : X → Prop} {ret : X → Value} {post : X → List Assn} (h : Spec P f args pre q ret post) (hp : Pick L pre rest) : Spec P f args L q ret (fun x => post x ++ rest) := fun σ R w hw =>
  (h σ _ w (hw.focus hp)).mono fun _ _ ⟨x, h1, h2, h3⟩ => ⟨x, h1, h2, h3.unfocus⟩
theorem Spec.ret {P : Program} {f : FuncId} {args : Array Value} {pre : List Assn} {X : Type} {q q' : X → Prop} {ret ret' : X → Value} {post : X → List Assn} (h : Spec P f args pre q ret post) (hr : ∀ x, q x → ret x = ret' x ∧ q' x) : Spec P f args pre q' ret' post := fun σ R w hw =>
  (h σ R w hw).mono fun _ _ ⟨x, h1, h2, h3⟩ => ⟨x, by rw [h1, (hr x h2).1], (hr x h2).2, h3⟩
theorem Spec.factR {P : Program} {f : FuncId} {args : Array Value} {A : Assn} {φ : Prop} {X : Type} {q : X → Prop} {ret : X → Value} {post : X → List Assn} (hA : ∀ w, Holds A w → φ) (h : φ → Spec P f args [A] q ret post) : Spec P f args [A] q ret post := fun σ R w hw =>
  h (hA w (hw.holds .here)) σ R w hw
section
variable {P : Program} {H : List Assn} {s : Slots} {x y : Operand} {T yT : Nat}
theorem Val.quo32 {a b : W} (hx : ev s x = some (w32 a)) (hy : ev s y = some (w32 b)) (hb : b ≠ 0) : Val P H s (.binOp .quo T x y yT) (w32 (a / b)) :=
  Val.bin hx hy fun w => by
    have hb2 : b.toNat ≠ 0 := by intro h; apply hb; apply BitVec.eq_of_toNat_eq; simpa using h
    have e1 : (a.toNat : Int).tdiv (b.toNat : Int) = ((a / b).toNat : Int) := by
      rw [Int.tdiv_eq_ediv_of_nonneg (Int.natCast_nonneg _), BitVec.toNat_udiv]; rfl
    have e : IntKind.u32.wrap ((a.toNat : Int).tdiv (b.toNat : Int)) = ((a / b).toNat : Int) := by rw [e1, wrap32_toNat]
    have e3 : IntKind.u32.wrap ((a.toNat : Int) / (b.toNat : Int)) = (a.toNat : Int) / (b.toNat : Int) := by have := wrap32_toNat (a / b); rw [BitVec.toNat_udiv] at this; exact this
    simp [Sem.run_bind, eqGuard_int, binOp, Result.andThen, Op.intDiv, hb2, e1, e3]
end
/-! the spaces' tables -/
def Db.tk (D : Db) (k : Nat) : Db := { D with mem := D.mem.tk k }
theorem Db.tk_ok {D : Db} {k : Nat} (h : D.ok) : (D.tk k).ok := Db.ok.mem h (congrArg List.length Mem.tk_sec)
theorem Db.tk_tk {D : Db} {a b : Nat} : (D.tk a).tk b = D.tk (a + b) := by unfold Db.tk; rw [Mem.tk_tk]
theorem Db.tk_zero {D : Db} : D.tk 0 = D := rfl
def ownsD (D : Db) (sp p t : Int) : Prop := D.has p ∧ (D.at p).ty = t ∧ (D.at p).own = sp
instance (D : Db) (sp p t : Int) : Decidable (ownsD D sp p t) := by unfold ownsD; infer_instance
def Db.pk (D : Db) (p o : Int) : W := D.mem.peek true p o
theorem Db.tk_pk {D : Db} {k : Nat} {p o : Int} : (D.tk k).pk p o = D.pk p o := Mem.tk_peek
def tableD (D : Db) (sp : Int) : Int × Int :=
  if ¬ D.has sp then (0, 5) else if (D.at sp).ty ≠ 1 then (0, 124) else if (D.at sp).st = 3 then (0, 3) else
  if ¬ ownsD D sp ((D.pk sp 0).toNat : Int) 3 then (0, 124) else (((D.pk sp 0).toNat : Int), 0)
structure Fd where
  page : Int
  j : Int
  err : Int
def findD (D : Db) (sp : Int) (va : W) : Fd :=
  if (tableD D sp).2 ≠ 0 then ⟨0, 0, (tableD D sp).2⟩ else if vaE va ≠ 0 then ⟨0, 0, 91⟩ else
  if (parseFirst (D.pk (tableD D sp).1 (vaI va))).2 ≠ 0 ∨ ¬ ownsD D sp (parseFirst (D.pk (tableD D sp).1 (vaI va))).1 4 then ⟨0, 0, 141⟩ else ⟨(parseFirst (D.pk (tableD D sp).1 (vaI va))).1, vaJ va, 0⟩
def slotD (D : Db) (sp : Int) (va : W) : Int := if (findD D sp va).err ≠ 0 then (findD D sp va).err else if D.pk (findD D sp va).page (findD D sp va).j ≠ 0#32 then 140 else 0
def Db.wr (D : Db) (p o : Int) (v : W) : Db := { D with mem := (D.mem.write true p o v).2 }
theorem Db.wr_ok {D : Db} {p o : Int} {v : W} (h : D.ok) : (D.wr p o v).ok := Db.ok.mem h Mem.write_len.1
def putD (D : Db) (sp : Int) (va : W) (x : PMap) : Int × Db := if slotD D sp va ≠ 0 then (slotD D sp va, D) else if (second x).2 ≠ 0 then ((second x).2, D) else (0, D.wr (findD D sp va).page (findD D sp va).j (second x).1)
def cutD (D : Db) (sp : Int) (va : W) : Int × Db := if (findD D sp va).err ≠ 0 then ((findD D sp va).err, D) else if D.pk (findD D sp va).page (findD D sp va).j = 0#32 then (92, D) else (0, D.wr (findD D sp va).page (findD D sp va).j 0#32)
def mappedD (D : Db) (w : W) : PMap × Int := if (parseSecond w).2 ≠ 0 then (PMap.zero, (parseSecond w).2) else if ¬ D.mem.has (parseSecond w).1.sec (parseSecond w).1.page then (PMap.zero, 90) else parseSecond w
def atD (D : Db) (sp : Int) (va : W) : PMap × Int := if (findD D sp va).err ≠ 0 then (PMap.zero, (findD D sp va).err) else mappedD D (D.pk (findD D sp va).page (findD D sp va).j)
def addTableD (D : Db) (sp ix l2 : Int) : Int × Db :=
  if (tableD D sp).2 ≠ 0 then ((tableD D sp).2, D) else if ¬ (0 ≤ ix ∧ ix < 256) then (4, D) else if ¬ D.has l2 then (5, D) else if ¬ ownsD D sp l2 4 then (124, D) else
  if D.pk (tableD D sp).1 ix ≠ 0#32 then (140, D) else (0, D.wr (tableD D sp).1 ix (first l2).1)
/-! nothing of this looks at the meter -/
theorem ownsD_tk {D : Db} {k : Nat} {a b c : Int} : ownsD (D.tk k) a b c ↔ ownsD D a b c := Iff.rfl
theorem tableD_tk {D : Db} {k : Nat} {a : Int} : tableD (D.tk k) a = tableD D a := by unfold tableD; simp only [Db.tk_pk, ownsD_tk]; rfl
theorem findD_tk {D : Db} {k : Nat} {a : Int} {b : W} : findD (D.tk k) a b = findD D a b := by unfold findD; simp only [Db.tk_pk, tableD_tk, ownsD_tk]
theorem slotD_tk {D : Db} {k : Nat} {a : Int} {b : W} : slotD (D.tk k) a b = slotD D a b := by unfold slotD; simp only [Db.tk_pk, findD_tk]
theorem mappedD_tk {D : Db} {k : Nat} {b : W} : mappedD (D.tk k) b = mappedD D b := by unfold mappedD; simp only [Db.tk, Mem.tk_has]
theorem atD_tk {D : Db} {k : Nat} {a : Int} {b : W} : atD (D.tk k) a b = atD D a b := by unfold atD; simp only [Db.tk_pk, findD_tk, mappedD_tk]
theorem findD_has {D : Db} {sp : Int} {va : W} (h : ¬ (findD D sp va).err ≠ 0) : D.has (findD D sp va).page ∧ 0 ≤ (findD D sp va).j ∧ (findD D sp va).j < 1024 := by
  have hj := @vaJ_lt va
  unfold findD at h ⊢
  split at h
  · rename_i h1; exact absurd h1 h
  · rename_i h1; rw [if_neg h1]
    split at h
    · exact absurd (by decide) h
    · rename_i h2; rw [if_neg h2]
      split at h
      · exact absurd (by decide) h
      · rename_i h3; rw [if_neg h3]
        have : ownsD D sp (parseFirst (D.pk (tableD D sp).1 (vaI va))).1 4 := Classical.byContradiction fun c => h3 (.inr c)
        exact ⟨this.1, hj.1, hj.2⟩
theorem tableD_has {D : Db} {sp : Int} (h : ¬ (tableD D sp).2 ≠ 0) : D.has (tableD D sp).1 := by
  unfold tableD at h ⊢
  split at h
  · exact absurd (by decide) h
  · rename_i h1; rw [if_neg h1]
    split at h
    · exact absurd (by decide) h
    · rename_i h2; rw [if_neg h2]
      split at h
      · exact absurd (by decide) h
      · rename_i h3; rw [if_neg h3]
        split at h
        · exact absurd (by decide) h
        · rename_i h4; rw [if_neg h4]
          have : ownsD D sp ((D.pk sp 0).toNat : Int) 3 := Classical.byContradiction h4
          exact this.1
theorem atD_ok {D : Db} {sp : Int} {va : W} (h : ¬ (findD D sp va).err ≠ 0) : atD D sp va = mappedD D (D.pk (findD D sp va).page (findD D sp va).j) := if_neg h
theorem get_of {D : Db} {p : Int} (h : D.has p) : D.get p = (D.at p, 0) := if_pos h
theorem get_no {D : Db} {p : Int} (h : ¬ D.has p) : D.get p = (.free, 5) := if_neg h
theorem get_err {D : Db} {p : Int} (h : (D.get p).2 ≠ 0) : ¬ D.has p := fun c => h (by rw [get_of c])
theorem get_ok {D : Db} {p : Int} (h : ¬ (D.get p).2 ≠ 0) : D.has p := Classical.byContradiction fun c => h (by rw [get_no c]; decide)
theorem owns_get {D : Db} {sp p t : Int} : ((D.get p).2 = 0 ∧ (D.get p).1.ty = t) ∧ (D.get p).1.own = sp ↔ ownsD D sp p t := by
  unfold ownsD
  constructor
  · rintro ⟨⟨h1, h2⟩, h3⟩
    have hp : D.has p := get_ok (fun c => c h1)
    rw [get_of hp] at h2 h3
    exact ⟨hp, h2, h3⟩
  · rintro ⟨hp, h2, h3⟩
    rw [get_of hp]; exact ⟨⟨rfl, h2⟩, h3⟩
theorem tableD_1 {D : Db} {sp : Int} (h : (D.get sp).2 ≠ 0) : tableD D sp = (0, 5) := by rw [tableD, if_pos (get_err h)]
theorem tableD_2 {D : Db} {sp : Int} (h : ¬ (D.get sp).2 ≠ 0) (h2 : (D.get sp).1.ty ≠ 1) : tableD D sp = (0, 124) := by
  have hs := get_ok h
  rw [get_of hs] at h2
  rw [tableD, if_neg (fun c => c hs), if_pos h2]
theorem tableD_3 {D : Db} {sp : Int} (h : ¬ (D.get sp).2 ≠ 0) (h2 : ¬ (D.get sp).1.ty ≠ 1) (h3 : (D.get sp).1.st = 3) : tableD D sp = (0, 3) := by
  have hs := get_ok h
  rw [get_of hs] at h2 h3
  rw [tableD, if_neg (fun c => c hs), if_neg h2, if_pos h3]
theorem tableD_4 {D : Db} {sp : Int} (h : ¬ (D.get sp).2 ≠ 0) (h2 : ¬ (D.get sp).1.ty ≠ 1) (h3 : ¬ (D.get sp).1.st = 3) (h4 : ¬ ownsD D sp ((D.pk sp 0).toNat : Int) 3) : tableD D sp = (0, 124) := by
  have hs := get_ok h
  rw [get_of hs] at h2 h3
  rw [tableD, if_neg (fun c => c hs), if_neg h2, if_neg h3, if_pos h4]
theorem tableD_5 {D : Db} {sp : Int} (h : ¬ (D.get sp).2 ≠ 0) (h2 : ¬ (D.get sp).1.ty ≠ 1) (h3 : ¬ (D.get sp).1.st = 3) (h4 : ownsD D sp ((D.pk sp 0).toNat : Int) 3) : tableD D sp = (((D.pk sp 0).toNat : Int), 0) := by
  have hs := get_ok h
  rw [get_of hs] at h2 h3
  rw [tableD, if_neg (fun c => c hs), if_neg h2, if_neg h3, if_neg (fun c => c h4)]
theorem findD_1 {D : Db} {sp : Int} {va : W} (h : (tableD D sp).2 ≠ 0) : findD D sp va = ⟨0, 0, (tableD D sp).2⟩ := if_pos h
theorem findD_2 {D : Db} {sp : Int} {va : W} (h : ¬ (tableD D sp).2 ≠ 0) (h2 : vaE va ≠ 0) : findD D sp va = ⟨0, 0, 91⟩ := by rw [findD, if_neg h, if_pos h2]
theorem findD_3 {D : Db} {sp : Int} {va : W} (h : ¬ (tableD D sp).2 ≠ 0) (h2 : ¬ vaE va ≠ 0) (h3 : (parseFirst (D.pk (tableD D sp).1 (vaI va))).2 ≠ 0 ∨ ¬ ownsD D sp (parseFirst (D.pk (tableD D sp).1 (vaI va))).1 4) : findD D sp va = ⟨0, 0, 141⟩ := by rw [findD, if_neg h, if_neg h2, if_pos h3]
theorem findD_4 {D : Db} {sp : Int} {va : W} (h : ¬ (tableD D sp).2 ≠ 0) (h2 : ¬ vaE va ≠ 0) (h3 : ¬ ((parseFirst (D.pk (tableD D sp).1 (vaI va))).2 ≠ 0 ∨ ¬ ownsD D sp (parseFirst (D.pk (tableD D sp).1 (vaI va))).1 4)) : findD D sp va = ⟨(parseFirst (D.pk (tableD D sp).1 (vaI va))).1, vaJ va, 0⟩ := by rw [findD, if_neg h, if_neg h2, if_neg h3]
def freeD (D : Db) (sp : Int) (va : W) : Fd := if slotD D sp va ≠ 0 then ⟨0, 0, slotD D sp va⟩ else findD D sp va
theorem slotD_1 {D : Db} {sp : Int} {va : W} (h : (findD D sp va).err ≠ 0) : slotD D sp va = (findD D sp va).err := if_pos h
theorem slotD_2 {D : Db} {sp : Int} {va : W} (h : ¬ (findD D sp va).err ≠ 0) (h2 : D.pk (findD D sp va).page (findD D sp va).j ≠ 0#32) : slotD D sp va = 140 := by rw [slotD, if_neg h, if_pos h2]
theorem slotD_3 {D : Db} {sp : Int} {va : W} (h : ¬ (findD D sp va).err ≠ 0) (h2 : ¬ D.pk (findD D sp va).page (findD D sp va).j ≠ 0#32) : slotD D sp va = 0 := by rw [slotD, if_neg h, if_neg h2]
theorem freeD_err {D : Db} {sp : Int} {va : W} : (freeD D sp va).err = slotD D sp va := by
  unfold freeD; split
  · rfl
  · rename_i h
    by_cases h2 : (findD D sp va).err ≠ 0
    · exact absurd (slotD_1 h2 ▸ h2) h
    · rw [Classical.byContradiction h2, Classical.byContradiction h]
theorem freeD_1 {D : Db} {sp : Int} {va : W} (h : slotD D sp va ≠ 0) : freeD D sp va = ⟨0, 0, slotD D sp va⟩ := if_pos h
theorem freeD_2 {D : Db} {sp : Int} {va : W} (h : ¬ slotD D sp va ≠ 0) : freeD D sp va = findD D sp va := if_neg h
theorem putD_1 {D : Db} {sp : Int} {va : W} {x : PMap} (h : slotD D sp va ≠ 0) : putD D sp va x = (slotD D sp va, D) := if_pos h
theorem putD_2 {D : Db} {sp : Int} {va : W} {x : PMap} (h : ¬ slotD D sp va ≠ 0) (h2 : (second x).2 ≠ 0) : putD D sp va x = ((second x).2, D) := by rw [putD, if_neg h, if_pos h2]
theorem putD_3 {D : Db} {sp : Int} {va : W} {x : PMap} (h : ¬ slotD D sp va ≠ 0) (h2 : ¬ (second x).2 ≠ 0) : putD D sp va x = (0, D.wr (findD D sp va).page (findD D sp va).j (second x).1) := by rw [putD, if_neg h, if_neg h2]
theorem cutD_1 {D : Db} {sp : Int} {va : W} (h : (findD D sp va).err ≠ 0) : cutD D sp va = ((findD D sp va).err, D) := if_pos h
theorem cutD_2 {D : Db} {sp : Int} {va : W} (h : ¬ (findD D sp va).err ≠ 0) (h2 : D.pk (findD D sp va).page (findD D sp va).j = 0#32) : cutD D sp va = (92, D) := by rw [cutD, if_neg h, if_pos h2]
theorem cutD_3 {D : Db} {sp : Int} {va : W} (h : ¬ (findD D sp va).err ≠ 0) (h2 : ¬ D.pk (findD D sp va).page (findD D sp va).j = 0#32) : cutD D sp va = (0, D.wr (findD D sp va).page (findD D sp va).j 0#32) := by rw [cutD, if_neg h, if_neg h2]
theorem atD_1 {D : Db} {sp : Int} {va : W} (h : (findD D sp va).err ≠ 0) : atD D sp va = (PMap.zero, (findD D sp va).err) := if_pos h
theorem mappedD_1 {D : Db} {w : W} (h : (parseSecond w).2 ≠ 0) : mappedD D w = (PMap.zero, (parseSecond w).2) := if_pos h
theorem mappedD_2 {D : Db} {w : W} (h : ¬ (parseSecond w).2 ≠ 0) (h2 : ¬ D.mem.has (parseSecond w).1.sec (parseSecond w).1.page) : mappedD D w = (PMap.zero, 90) := by rw [mappedD, if_neg h, if_pos h2]
theorem mappedD_3 {D : Db} {w : W} (h : ¬ (parseSecond w).2 ≠ 0) (h2 : D.mem.has (parseSecond w).1.sec (parseSecond w).1.page) : mappedD D w = ((parseSecond w).1, 0) := by
  rw [mappedD, if_neg h, if_neg (fun c => c h2)]
  have := Classical.byContradiction h
  cases hq : parseSecond w; rw [hq] at this; simp at this; rw [this]
theorem parseSecond_errs {w : W} : (parseSecond w).2 = 0 ∨ (parseSecond w).2 = 92 ∨ (parseSecond w).2 = 90 := by
  unfold parseSecond; split
  · exact .inr (.inl rfl)
  · split
    · exact .inr (.inr rfl)
    · exact .inl rfl
section
variable {D : Db} {sp ix l2 : Int}
theorem addT_1 (h : (tableD D sp).2 ≠ 0) : addTableD D sp ix l2 = ((tableD D sp).2, D) := if_pos h
theorem addT_2 (h : ¬ (tableD D sp).2 ≠ 0) (h2 : ¬ (0 ≤ ix ∧ ix < 256)) : addTableD D sp ix l2 = (4, D) := by rw [addTableD, if_neg h, if_pos h2]
theorem addT_3 (h : ¬ (tableD D sp).2 ≠ 0) (h2 : 0 ≤ ix ∧ ix < 256) (h3 : ¬ D.has l2) : addTableD D sp ix l2 = (5, D) := by rw [addTableD, if_neg h, if_neg (fun c => c h2), if_pos h3]
theorem addT_4 (h : ¬ (tableD D sp).2 ≠ 0) (h2 : 0 ≤ ix ∧ ix < 256) (h3 : D.has l2) (h4 : ¬ ownsD D sp l2 4) : addTableD D sp ix l2 = (124, D) := by rw [addTableD, if_neg h, if_neg (fun c => c h2), if_neg (fun c => c h3), if_pos h4]
theorem addT_5 (h : ¬ (tableD D sp).2 ≠ 0) (h2 : 0 ≤ ix ∧ ix < 256) (h3 : D.has l2) (h4 : ownsD D sp l2 4) (h5 : D.pk (tableD D sp).1 ix ≠ 0#32) : addTableD D sp ix l2 = (140, D) := by rw [addTableD, if_neg h, if_neg (fun c => c h2), if_neg (fun c => c h3), if_neg (fun c => c h4), if_pos h5]
theorem addT_6 (h : ¬ (tableD D sp).2 ≠ 0) (h2 : 0 ≤ ix ∧ ix < 256) (h3 : D.has l2) (h4 : ownsD D sp l2 4) (h5 : ¬ D.pk (tableD D sp).1 ix ≠ 0#32) : addTableD D sp ix l2 = (0, D.wr (tableD D sp).1 ix (first l2).1) := by rw [addTableD, if_neg h, if_neg (fun c => c h2), if_neg (fun c => c h3), if_neg (fun c => c h4), if_neg h5]
end
/-! mappings in a word -/
structure Mp where
  va : W
  wr : Bool
  ex : Bool
abbrev Mp.cells (m : Mp) : List Value := [w32 m.va, .bool m.wr, .bool m.ex]
abbrev Mp.val (m : Mp) : Value := .agg m.cells.toArray
def Mp.zero : Mp := ⟨0#32, false, false⟩
def mpBad (m : Mp) : Prop := m.va % 4096#32 ≠ 0#32 ∨ (1073741824#32).toNat ≤ m.va.toNat
instance (m : Mp) : Decidable (mpBad m) := by unfold mpBad; infer_instance
def wordM (m : Mp) : W × Int := if mpBad m then (0#32, 91) else (m.va + 1#32 + (if m.wr then 2#32 else 0#32) + (if m.ex then 4#32 else 0#32), 0)
theorem or_toNat {a b : W} {i : Nat} (hb : b.toNat < 2 ^ i) (ha : a.toNat % 2 ^ i = 0) (h : a.toNat + b.toNat < 4294967296) : a ||| b = a + b := by
  apply BitVec.eq_of_toNat_eq
  rw [BitVec.toNat_or, BitVec.toNat_add, Nat.or_comm, or_add hb ha]
  omega
theorem wordM_or {m : Mp} (h : ¬ mpBad m) : (if m.ex then (if m.wr then m.va ||| 1#32 ||| 2#32 else m.va ||| 1#32) ||| 4#32 else (if m.wr then m.va ||| 1#32 ||| 2#32 else m.va ||| 1#32)) = m.va + 1#32 + (if m.wr then 2#32 else 0#32) + (if m.ex then 4#32 else 0#32) := by
  have h1 : m.va.toNat % 4096 = 0 := by
    have h2 : m.va % 4096#32 = 0#32 := Classical.byContradiction fun c => h (.inl c)
    have h3 := congrArg BitVec.toNat h2
    rw [BitVec.toNat_umod] at h3; exact h3
  have h2 : m.va.toNat < 1073741824 := by
    have h3 : ¬ (1073741824#32).toNat ≤ m.va.toNat := fun c => h (.inr c)
    have : (1073741824#32).toNat = 1073741824 := by decide
    omega
  obtain ⟨va, wr, ex⟩ := m
  dsimp only at h1 h2 ⊢
  have e (c : W) (hc : c.toNat < 4096) : va ||| c = va + c := or_toNat (i := 12) hc h1 (by omega)
  cases wr <;> cases ex <;> simp only [if_true, Bool.false_eq_true, if_false]
  · rw [e _ (by decide)]; simp
  · rw [BitVec.or_assoc, e _ (by decide), BitVec.add_assoc, BitVec.add_assoc]; rfl
  · rw [BitVec.or_assoc, e _ (by decide), BitVec.add_assoc, BitVec.add_assoc]; rfl
  · rw [BitVec.or_assoc, BitVec.or_assoc, e _ (by decide), BitVec.add_assoc, BitVec.add_assoc]; rfl
def guessM (w : W) : Mp := ⟨w - w % 4096#32, decide (w / 2#32 % 2#32 = 1#32), decide (w / 4#32 % 2#32 = 1#32)⟩
theorem guessM_bits {w : W} : (⟨w &&& ~~~4095#32, decide (w &&& 2#32 ≠ 0#32), decide (w &&& 4#32 ≠ 0#32)⟩ : Mp) = guessM w := by
  have e1 (k : Nat) (c : W) (hc : c.toNat = 2 ^ k) : decide ((w.toNat : Int) / ((2 ^ k : Nat) : Int) % 2 = 1) = decide (w / c % 2#32 = 1#32) := by
    apply decide_eq_decide.2
    have h1 : (w / c % 2#32).toNat = w.toNat / 2 ^ k % 2 := by rw [BitVec.toNat_umod, BitVec.toNat_udiv, hc]; rfl
    constructor
    · intro h; apply BitVec.eq_of_toNat_eq; rw [h1]; have : w.toNat / 2 ^ k % 2 = 1 := by exact_mod_cast h
      rw [this]; rfl
    · intro h
      have h2 := congrArg BitVec.toNat h
      rw [h1] at h2
      have h3 : w.toNat / 2 ^ k % 2 = 1 := h2
      exact_mod_cast h3
  have e2 : w &&& ~~~4095#32 = w - w % 4096#32 := by
    have h1 : w % 4096#32 = w &&& 4095#32 := by
      apply BitVec.eq_of_toNat_eq
      rw [BitVec.toNat_umod, BitVec.toNat_and, show (4095#32).toNat = 2 ^ 12 - 1 from by decide, Nat.and_two_pow_sub_one_eq_mod]; rfl
    have h2 : (w &&& ~~~4095#32) + (w &&& 4095#32) = w := by
      have h3 : (w &&& ~~~4095#32) + (w &&& 4095#32) = (w &&& ~~~4095#32) ||| (w &&& 4095#32) := by
        rw [BitVec.add_eq_or_of_and_eq_zero]
        apply BitVec.eq_of_getLsbD_eq; intro i hi
        simp only [BitVec.getLsbD_and, BitVec.getLsbD_not, BitVec.getLsbD_zero]
        cases w.getLsbD i <;> cases (4095#32 : W).getLsbD i <;> simp
      rw [h3]
      apply BitVec.eq_of_getLsbD_eq; intro i hi
      simp only [BitVec.getLsbD_and, BitVec.getLsbD_not, BitVec.getLsbD_or]
      cases w.getLsbD i <;> cases (4095#32 : W).getLsbD i <;> simp [hi]
    rw [h1]
    conv => rhs; lhs; rw [← h2]
    exact (BitVec.add_sub_cancel ..).symm
  unfold guessM
  rw [and_bit (k := 1) (by decide) (by decide), and_bit (k := 2) (by decide) (by decide), e1 1 2#32 rfl, e1 2 4#32 rfl, e2]
def parseM (w : W) : Mp × Int := if (wordM (guessM w)).2 ≠ 0 ∨ (wordM (guessM w)).1 ≠ w then (Mp.zero, 142) else (guessM w, 0)
end Go.Wd
