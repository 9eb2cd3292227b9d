/- PROVED HERE: the plain law: what the functions compute, with no program in sight. No condition beyond each theorem's own. -/
import Derived.Test.YtkpomphooljgmaaGreatDoorMSvc3
import Derived.Test.YtkpomphooljgmaaGreatDoorMSha2
namespace Go.Wd
open Go
/-! the layers below, the meter apart -/
def RS (x y : Int × Db) : Prop := x.1 = y.1 ∧ x.2.same y.2
theorem RS.ite {c c' : Prop} [Decidable c] [Decidable c'] {a a' b b' : Int × Db} (hc : c ↔ c') (ha : RS a a') (hb : RS b b') : RS (if c then a else b) (if c' then a' else b') := by
  by_cases h : c
  · rw [if_pos h, if_pos (hc.1 h)]; exact ha
  · rw [if_neg h, if_neg (fun x => h (hc.2 x))]; exact hb
theorem RS.met {D : Db} {t k : Int} : RS (k, D.met t) (k, D) := ⟨rfl, Db.met_same⟩
theorem Mem.write_met' {M : Mem} {t : Int} {s : Bool} {p o : Int} {v : W} : (({ M with meter := t } : Mem).write s p o v).1 = (M.write s p o v).1 ∧ ∃ t', (({ M with meter := t } : Mem).write s p o v).2 = { (M.write s p o v).2 with meter := t' } := by
  unfold Mem.write
  rw [Mem.errW_met]
  by_cases h : M.errW s p o = 0
  · rw [if_pos h, if_pos h]; exact ⟨rfl, IntKind.i64.wrap (t + 1), by cases s <;> rfl⟩
  · rw [if_neg h, if_neg h]; exact ⟨rfl, t, rfl⟩
def Db.wrS (D : Db) (s : Bool) (p o : Int) (v : W) : Db := { D with mem := (D.mem.write s p o v).2 }
section
variable {D T : Db} (h : D.same T)
include h
theorem Db.same.wrS {s : Bool} {p o : Int} {v : W} : (D.mem.write s p o v).1 = (T.mem.write s p o v).1 ∧ (D.wrS s p o v).same (T.wrS s p o v) := by
  rw [h.eq]
  obtain ⟨h1, t', h2⟩ := Mem.write_met' (M := T.mem) (t := D.mem.meter) (s := s) (p := p) (o := o) (v := v)
  refine ⟨h1, ⟨rfl, rfl, ?_, ?_⟩⟩
  · show (({ T.mem with meter := D.mem.meter } : Mem).write s p o v).2.sec = _; rw [h2]; rfl
  · show (({ T.mem with meter := D.mem.meter } : Mem).write s p o v).2.ins = _; rw [h2]; rfl
theorem Db.same.takeSpace {sp fi : Int} : RS (D.takeSpace sp fi) (T.takeSpace sp fi) := by
  rw [h.eq]
  unfold Db.takeSpace
  refine RS.ite Iff.rfl .met (RS.ite Iff.rfl .met (RS.ite Iff.rfl .met (RS.ite Iff.rfl .met ⟨rfl, ?_⟩)))
  obtain ⟨_, t1, h1⟩ := Mem.write_met' (M := T.mem) (t := D.mem.meter) (s := true) (p := sp) (o := 0) (v := BitVec.ofInt 32 fi)
  obtain ⟨_, t2, h2⟩ := Mem.write_met' (M := (T.mem.write true sp 0 (BitVec.ofInt 32 fi)).2) (t := t1) (s := true) (p := sp) (o := 1) (v := BitVec.ofInt 32 T.births)
  obtain ⟨_, t3, h3⟩ := Mem.write_met' (M := ((T.mem.write true sp 0 (BitVec.ofInt 32 fi)).2.write true sp 1 (BitVec.ofInt 32 T.births)).2) (t := t2) (s := true) (p := sp) (o := 2) (v := 0)
  refine ⟨rfl, rfl, ?_, ?_⟩
  · show (((({ T.mem with meter := D.mem.meter } : Mem).write true sp 0 (BitVec.ofInt 32 fi)).2.write true sp 1 (BitVec.ofInt 32 T.births)).2.write true sp 2 0).2.sec = _
    rw [h1, h2, h3]
  · show (((({ T.mem with meter := D.mem.meter } : Mem).write true sp 0 (BitVec.ofInt 32 fi)).2.write true sp 1 (BitVec.ofInt 32 T.births)).2.write true sp 2 0).2.ins = _
    rw [h1, h2, h3]
theorem Db.same.take {p t sp : Int} : RS (D.take p t sp) (T.take p t sp) := by
  rw [h.eq]
  unfold Db.take
  exact RS.ite Iff.rfl .met (RS.ite Iff.rfl .met (RS.ite Iff.rfl .met (RS.ite Iff.rfl .met ⟨rfl, rfl, rfl, rfl, rfl⟩)))
theorem Db.same.turnS {p t : Int} : RS (D.turn p t) (T.turn p t) := h.turn
theorem Db.same.setState {p t : Int} : RS (D.setState p t) (T.setState p t) := by
  rw [h.eq]
  unfold Db.setState
  exact RS.ite Iff.rfl .met (RS.ite Iff.rfl .met (RS.ite Iff.rfl .met ⟨rfl, rfl, rfl, rfl, rfl⟩))
theorem Db.same.setEntered {p : Int} {on : Bool} : RS (D.setEntered p on) (T.setEntered p on) := by
  rw [h.eq]
  unfold Db.setEntered
  exact RS.ite Iff.rfl .met (RS.ite Iff.rfl .met ⟨rfl, rfl, rfl, rfl, rfl⟩)
theorem Db.same.give {p : Int} : RS (D.give p) (T.give p) := by
  rw [h.eq]
  unfold Db.give
  refine RS.ite Iff.rfl .met (RS.ite Iff.rfl .met (RS.ite Iff.rfl .met ⟨rfl, ?_⟩))
  dsimp only
  by_cases c : (T.at p).ty ≠ 1 ∧ (T.set p .free).space (T.at p).own ∧ 0 < ((T.set p .free).at (T.at p).own).refs
  · rw [if_pos (show ((T.met D.mem.meter).at p).ty ≠ 1 ∧ ((T.met D.mem.meter).set p .free).space ((T.met D.mem.meter).at p).own ∧ 0 < (((T.met D.mem.meter).set p .free).at ((T.met D.mem.meter).at p).own).refs from c), if_pos c]
    exact ⟨rfl, rfl, Mem.zero_met.2.1, Mem.zero_met.2.2⟩
  · rw [if_neg (show ¬ (((T.met D.mem.meter).at p).ty ≠ 1 ∧ ((T.met D.mem.meter).set p .free).space ((T.met D.mem.meter).at p).own ∧ 0 < (((T.met D.mem.meter).set p .free).at ((T.met D.mem.meter).at p).own).refs) from c), if_neg c]
    exact ⟨rfl, rfl, Mem.zero_met.2.1, Mem.zero_met.2.2⟩
theorem Db.same.words : D.words = T.words := by rw [h.eq]; rfl
theorem Db.same.loadOk {ws : List W} : Db.loadOk D.mem ws ↔ Db.loadOk T.mem ws := by unfold Db.loadOk; rw [h.sec]
theorem Db.same.loadE {ws : List W} : (Db.loadE D.mem ws).same (Db.loadE T.mem ws) := by
  refine ⟨?_, rfl, h.sec, h.ins⟩
  unfold Db.loadE; rw [h.sec]
theorem Db.same.opt {x y : Option Nat} {ws : List W} (hx : x.isSome ↔ Db.loadOk D.mem ws) (hy : y.isSome ↔ Db.loadOk T.mem ws) : x.isSome = y.isSome := by
  rw [Bool.eq_iff_iff, hx, hy]; exact h.loadOk
end
/-! slices of cells of k, as they are read -/
def RdK (A : Assn) (v : Value) (k n : Nat) (us : List Value) : Prop := ∀ w, Holds A w → (∃ p, v = .slice p 0 0 ∧ n = 0) ∨ ∃ g off c, v = .slice (some ⟨g, off, none⟩) n c ∧ n ≤ c ∧ us.length = n * k ∧ ∀ j u, us[j]? = some u → w.cell? ⟨g, off + j, none⟩ = some u
def elemK (v : Value) (k i : Nat) : Value := match v with
  | .slice (some ⟨g, off, none⟩) _ _ => .pointer (some ⟨g, off + i * k, none⟩)
  | _ => .pointer none
def cutK (us : List Value) (k i : Nat) : List Value := (us.drop (i * k)).take k
theorem RdK.shp {A : Assn} {v : Value} {k n : Nat} {us : List Value} (hR : RdK A v k n us) {w : World} (h : Holds A w) : Shp v n := by
  rcases hR w h with ⟨p, h1, h2⟩ | ⟨g, off, c, h1, h2, _⟩
  · exact .inl ⟨p, h1, h2⟩
  · exact .inr ⟨g, off, c, h1, h2⟩
section
variable {P : Program} {n : Nat} {σ : Env} {R : Assn} {Q : Exit → Act → World → Prop} {s : Slots} {L L' : List Assn} {c : Code}
theorem TC.shpK {A : Assn} {v : Value} {k m : Nat} {us : List Value} (hR : RdK A v k m us) (ht : Take L A L') (h : Shp v m → TC P n σ R c Q s L) : TC P n σ R c Q s L := fun a w ha hw => h (hR.shp (hw.holds ht)) a w ha hw
end
section
variable {P : Program} {H : List Assn} {s : Slots}
theorem equal_bool {T : Nat} {a b : Bool} (hT : P.underlying T = some .bool) (w : World) : (Op.equal T (.bool a) (.bool b)).run P w = .ok (decide (a = b)) w := by
  unfold Op.equal
  rw [show Op.maxDepth = 9999 + 1 from rfl]
  generalize 9999 = d
  cases a <;> cases b <;> simp [Op.equalIn, Sem.run_bind, run_underlying hT, Result.andThen]
theorem Val.neqBool {x y : Operand} {T yT : Nat} {a b : Bool} (hT : P.underlying T = some .bool) (hx : ev s x = some (.bool a)) (hy : ev s y = some (.bool b)) : Val P H s (.binOp .neq T x y yT) (.bool (decide (a ≠ b))) :=
  Val.bin hx hy fun w => by simp [eqGuard, binOp, equal_bool hT, Result.andThen]
theorem Val.eqlBool {x y : Operand} {T yT : Nat} {a b : Bool} (hT : P.underlying T = some .bool) (hx : ev s x = some (.bool a)) (hy : ev s y = some (.bool b)) : Val P H s (.binOp .eql T x y yT) (.bool (decide (a = b))) :=
  Val.bin hx hy fun w => by simp [eqGuard, binOp, equal_bool hT, Result.andThen]
theorem Val.ixK {x i : Operand} {T E z n : Nat} {v : Value} {ki : IntKind} {j : Int} (ht : P.underlying T = some (.slice E)) (hz : ∀ w, (sizeOf E).run P w = .ok z w) (hS : Shp v n)
    (hx : ev s x = some v) (hi : ev s i = some (.int ki j)) (hj : 0 ≤ j ∧ j < n) : Val P H s (.indexAddr T x i) (elemK v z j.toNat) := by
  rcases hS with ⟨_, rfl, rfl⟩ | ⟨g, off, c, rfl, h⟩
  · exfalso; omega
  · exact Val.ixSlice ht hz hx hi hj
theorem Val.loadK {x : Operand} {T z i n : Nat} {v : Value} {us ls : List Value} {A : Assn} {H' : List Assn} (ht : ∀ w, (isAgg T).run P w = .ok true w) (hz : ∀ w, (sizeOf T).run P w = .ok z w) (hx : ev s x = some (elemK v z i)) (hi : i < n) (hm : Take H A H') (hR : RdK A v z n us) (he : cutK us z i = ls) : Val P H s (.load T x) (.agg ls.toArray) := fun _ a w hs hw o ho => by
  subst he
  rcases hR w (hw.get hm) with ⟨_, rfl, rfl⟩ | ⟨g, off, c, rfl, _, hl, h3⟩
  · omega
  · unfold execOp; rw [ho]; simp only [hs.ev hx]
    refine run_v ?_
    have hle : i * z + z ≤ n * z := by rw [← Nat.succ_mul]; exact Nat.mul_le_mul_right z hi
    have h1 := run_loadCells_list (P := P) w ⟨g, off + i * z, none⟩ (cutK us z i) (fun j u hj => by
      rw [add_none]
      unfold cutK at hj
      rw [List.getElem?_take] at hj
      split at hj
      · rw [List.getElem?_drop] at hj
        rw [Nat.add_assoc]; exact h3 _ _ hj
      · cases hj)
    have hk : (cutK us z i).length = z := by unfold cutK; rw [List.length_take, List.length_drop]; omega
    rw [hk] at h1
    simp only [elemK, Instr.loadAt, Instr.sureAddr, loadVar, Sem.run_bind, Sem.run_pure, Result.andThen, ht, hz, if_true, h1]
end
section
variable {P : Program} {n : Nat} {σ : Env} {R : Assn} {Q : Exit → Act → World → Prop} {s : Slots} {L L' : List Assn} {ops : Array Oper} {l : List Oper} {ty : Nat} {pos : String} {af : Array Edge}
theorem TL.buildSlice0 {d T E z1 : Nat} (hu : P.underlying T = some (.slice E)) (hk : ∀ w, (sizeOf E).run P w = .ok z1 w) (hn : Nat.blt d n = true)
    (h : ∀ g, TL P n σ R ops Q l ((d, .slice (some ⟨g, 0, none⟩) 0 0) :: s) (.row g [] E :: L)) : TL P n σ R ops Q (⟨some d, .buildSlice T 0 #[], ty, pos, af, none⟩ :: l) s L :=
  TL.effNew (v := fun g => .slice (some ⟨g, 0, none⟩) 0 0) (L' := fun g => .row g [] E :: L) hn (fun ac w hs hw o ho => by
    refine ⟨w.heap.size, { w with heap := w.heap.push (.cells #[] E) }, ?_, hw.alloc _⟩
    unfold execOp; rw [ho]; simp only
    refine run_v ?_
    simp [Instr.buildSlice, Instr.fill, Sem.run_bind, run_underlying hu, Result.andThen, hk, Sem.run_pure, newRow, newObj, Sem.run]
    rw [show Array.range 0 = #[] from Array.eq_empty_of_size_eq_zero (by simp), Array.map_empty]) h
end
section
variable {P : Program} {n : Nat} {σ : Env} {R : Assn} {Q : Exit → Act → World → Prop} {s : Slots} {L L' : List Assn} {ops : Array Oper} {l : List Oper}
theorem TL.shpG {E k m : Nat} {v : Value} {us : List Value} (ht : Take L (GSl E k v m us) L') (h : Shp v m → TL P n σ R ops Q l s L) : TL P n σ R ops Q l s L := fun a w ha hw => h (GSl.shp (hw.holds ht)) a w ha hw
end
/-- the streams of 'costs' -/
def CostA (a b c : Nat) : Assn := .sep (.row b [w32 5#32, w32 9#32] 23) (.row c [.slice (some ⟨a, 0, none⟩) 0 0, .slice (some ⟨b, 0, none⟩) 2 2] 31)
theorem CostA.rd2 {a b c : Nat} : Rd2 (CostA a b c) (.slice (some ⟨c, 0, none⟩) 2 2) [.slice (some ⟨a, 0, none⟩) 0 0, .slice (some ⟨b, 0, none⟩) 2 2] [[], [5#32, 9#32]] where
  out := fun w hw => Rd.row (off := 0) (n := 2) (c := 2) (us := [.slice (some ⟨a, 0, none⟩) 0 0, .slice (some ⟨b, 0, none⟩) 2 2]) rfl rfl (by decide) w hw.right
  len := rfl
  ins := fun i u s hu hs w hw => by
    match i, hu, hs with
    | 0, hu, hs =>
      simp at hu hs; subst hu; subst hs
      exact .inr ⟨a, 0, 0, rfl, Nat.le_refl _, fun j u h => by simp [w32s] at h⟩
    | 1, hu, hs =>
      simp at hu hs; subst hu; subst hs
      exact Rd.row (off := 0) (n := 2) (c := 2) (l := [w32 5#32, w32 9#32]) (us := w32s [5#32, 9#32]) rfl rfl (by decide) w hw.left
    | i + 2, hu, _ => simp at hu
/-! windows in a row -/
def Wins (T : Nat) : List Value → List (List W) → Assn
  | [], [] => .emp
  | u :: us, s :: ss => .sep (WinV T u (w32s s)) (Wins T us ss)
  | _, _ => .fact False
theorem Wins.len {T : Nat} {w : World} : ∀ {us : List Value} {ss : List (List W)} {F : Nat → Prop}, (Wins T us ss).p w F → us.length = ss.length
  | [], [], _, _ => rfl
  | _ :: _, _ :: _, _, ⟨_, _, _, h, _, _⟩ => by have := Wins.len h; simp [this]
  | [], _ :: _, _, ⟨h, _⟩ => h.elim
  | _ :: _, [], _, ⟨h, _⟩ => h.elim
theorem Wins.rd {T : Nat} : ∀ {us : List Value} {ss : List (List W)} {i : Nat} {u : Value} {s : List W}, us[i]? = some u → ss[i]? = some s → Rd (Wins T us ss) u (w32s s)
  | u' :: us, s' :: ss, 0, u, s, hu, hs => by
    simp at hu hs; subst hu; subst hs
    exact fun w hw => Rd.win w hw.left
  | u' :: us, s' :: ss, i + 1, u, s, hu, hs => fun w hw => Wins.rd (us := us) (ss := ss) (by simpa using hu) (by simpa using hs) w hw.right
  | [], _, _, _, _, hu, _ => by simp at hu
  | _ :: _, [], _, _, _, _, hs => by simp at hs
theorem Wins.push {T : Nat} {u : Value} {s : List W} : ∀ {us : List Value} {ss : List (List W)} {L : List Assn}, Ent (WinV T u (w32s s) :: Wins T us ss :: L) (Wins T (us ++ [u]) (ss ++ [s]) :: L)
  | [], [], _ => Ent.sepR
  | u' :: us, s' :: ss, L => by
    refine Ent.trans (Ent.cons Ent.sepLR) ?_
    refine Ent.trans (Ent.perm (M := [WinV T u' (w32s s')]) (rest := WinV T u (w32s s) :: Wins T us ss :: L) (.cons (.there .here) .nil)) ?_
    refine Ent.trans (Ent.cons Wins.push) ?_
    exact Ent.sepR
  | [], _ :: _, _ => fun _ _ _ h => by
    obtain ⟨_, _, _, _, h1, _⟩ := h
    obtain ⟨_, _, _, h2, _⟩ := h1
    obtain ⟨_, _, h3, _⟩ := h2
    exact h3.1.elim
  | _ :: _, [], _ => fun _ _ _ h => by
    obtain ⟨_, _, _, _, h1, _⟩ := h
    obtain ⟨_, _, _, h2, _⟩ := h1
    obtain ⟨_, _, h3, _⟩ := h2
    exact h3.1.elim
/-- streams in new memory -/
def Cop (E : Nat) (v : Value) (us : List Value) (ss : List (List W)) : Assn := .sep (GSl E 1 v us.length us) (Wins 23 us ss)
theorem Cop.rd2 {E : Nat} {v : Value} {us : List Value} {ss : List (List W)} (hl : us.length = ss.length) : Rd2 (Cop E v us ss) v us ss where
  out := fun w hw => Rd.gsl w hw.left
  len := hl
  ins := fun i u s hu hs w hw => Wins.rd hu hs w hw.right

def marks (n : Nat) : List W := (List.range n).map fun (j : Nat) => 77#32 + BitVec.ofInt 32 (j : Int)
theorem marks_succ {n : Nat} : marks (n + 1) = marks n ++ [77#32 + BitVec.ofInt 32 (n : Int)] := by unfold marks; rw [List.range_succ, List.map_append]; rfl
theorem marks_len {n : Nat} : (marks n).length = n := by unfold marks; rw [List.length_map, List.length_range]
def mkd (s : List W) : List W := s ++ marks 120
theorem mkd_len {s : List W} : (mkd s).length = s.length + 120 := by unfold mkd; rw [List.length_append, marks_len]
theorem fill_cell {v z : Value} (h : isCell v = true) : Instr.fill (fun i => some (i * 1, 1)) #[z] [(0, v)] = some #[v] := by
  simp [Instr.fill, isCell_cells h]
structure Pcs (us vs : List Value) (T : List (List W)) : Prop where
  len : vs.length = us.length
  get : ∀ (i : Nat) (u : Value) (t : List W), us[i]? = some u → T[i]? = some t → ∃ g off c, u = .slice (some ⟨g, off, none⟩) t.length c ∧ vs[i]? = some (.slice (some ⟨g, off, none⟩) (t.length - 120) c)
theorem Pcs.push {us vs : List Value} {T : List (List W)} {i g off c k : Nat} {t : List W} (h : Pcs (us.take i) vs (T.take i)) (hu : us[i]? = some (.slice (some ⟨g, off, none⟩) t.length c)) (ht : T[i]? = some t) (hl : us.length = T.length) (hk : k = t.length - 120) : Pcs (us.take (i + 1)) (vs ++ [.slice (some ⟨g, off, none⟩) k c]) (T.take (i + 1)) where
  len := by
    have h1 := h.len
    have h2 := (List.getElem?_eq_some_iff.1 hu).1
    rw [List.length_take] at h1
    rw [List.length_append, List.length_take, h1]; simp; omega
  get := fun j u t' hj hj' => by
    have h1 := h.len
    have h2 := (List.getElem?_eq_some_iff.1 hu).1
    rw [List.length_take] at h1
    rw [List.getElem?_take] at hj hj'
    split at hj
    · rename_i hlt
      rw [if_pos hlt] at hj'
      by_cases e : j = i
      · subst e
        rw [hu] at hj; rw [ht] at hj'
        cases hj; cases hj'
        refine ⟨g, off, c, rfl, ?_⟩
        rw [List.getElem?_append_right (by omega), h1, show j - min j us.length = 0 by omega, hk]; rfl
      · obtain ⟨g', o', c', e1, e2⟩ := h.get j u t' (by rw [List.getElem?_take, if_pos (by omega)]; exact hj) (by rw [List.getElem?_take, if_pos (by omega)]; exact hj')
        refine ⟨g', o', c', e1, ?_⟩
        rw [List.getElem?_append_left (by omega)]; exact e2
    · cases hj
/-- the pieces, beside what they are pieces of -/
theorem Pcs.rd2 {E : Nat} {A : Assn} {v v' : Value} {us vs : List Value} {S : List (List W)} (h : Pcs us vs (S.map mkd)) (hR : Rd2 A v us (S.map mkd)) : Rd2 (.sep (GSl E 1 v' vs.length vs) A) v' vs S where
  out := fun w hw => Rd.gsl w hw.left
  len := by rw [h.len, hR.len, List.length_map]
  ins := fun i u s hu hs w hw => by
    have hi : i < us.length := by rw [← h.len]; exact (List.getElem?_eq_some_iff.1 hu).1
    have hu' : us[i]? = some us[i] := List.getElem?_eq_getElem hi
    have hs' : (S.map mkd)[i]? = some (mkd s) := by rw [List.getElem?_map, hs]; rfl
    obtain ⟨g, off, c, e1, e2⟩ := h.get i us[i] (mkd s) hu' hs'
    rw [hu] at e2
    cases e2
    have hr := hR.ins i us[i] (mkd s) hu' hs' w hw.right
    rw [e1, w32s_length, mkd_len] at hr
    rcases hr with ⟨_, h1, h0⟩ | ⟨g1, off1, c1, h1, h2, h3⟩
    · have h0 := congrArg List.length h0; rw [w32s_length, mkd_len, List.length_nil] at h0; omega
    · cases h1
      refine .inr ⟨g, off, c, by rw [w32s_length, mkd_len, Nat.add_sub_cancel], by rw [w32s_length, mkd_len] at *; omega, fun j u hj => h3 j u ?_⟩
      have hj' : j < s.length := by have := (List.getElem?_eq_some_iff.1 hj).1; rwa [w32s_length] at this
      unfold mkd; rw [w32s_append, List.getElem?_append_left (by rw [w32s_length]; exact hj')]; exact hj
theorem Rd2.left {A B : Assn} {v : Value} {us : List Value} {S : List (List W)} (h : Rd2 A v us S) : Rd2 (.sep A B) v us S := ⟨fun w hw => h.out w hw.left, h.len, fun i u s hu hs w hw => h.ins i u s hu hs w hw.left⟩
theorem Tab.left {A B : Assn} {g : Nat} (h : Tab A g) : Tab (.sep A B) g := fun w hw => h w hw.left
theorem Tab.right {A B : Assn} {g : Nat} (h : Tab B g) : Tab (.sep A B) g := fun w hw => h w hw.right
end Go.Wd
