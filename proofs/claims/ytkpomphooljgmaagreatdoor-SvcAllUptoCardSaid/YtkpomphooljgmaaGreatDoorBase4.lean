/- PROVED HERE: rules of assertions with a footprint, and of the model's operations over them. No condition beyond each theorem's own. -/
import Derived.Test.YtkpomphooljgmaaGreatDoorBase3
namespace Go.Wd
open Go

section
variable {P : Program} {n : Nat} {σ : Env} {R : Assn} {Q : Exit → Act → World → Prop} {s : Slots} {L L' L'' : List Assn} {ops : Array Oper} {l : List Oper} {ty : Nat} {pos : String} {af : Array Edge}

theorem execOp_builtin' (ρ : Operand → Value) (o : Oper) (b : Builtin) (xs : Array Operand) (ats : Array TypeId) (h : o.op = .call { callee := .builtin b, args := xs, argTypes := ats }) :
    execOp ρ o = builtin b ats o.type (xs.map fun | .const _ => true | _ => false) (xs.map ρ) := by
  unfold execOp; rw [h]; rfl

theorem storeCells_row {b off T : Nat} {vs us : List Value} {w : World} (hb : w.heap[b]? = some (.cells vs.toArray T)) (hl : off + us.length ≤ vs.length) (hv : us.all isCell = true) :
    (storeCells ⟨b, off, none⟩ us).run P w = .ok () (w.setRow b (vs.take off ++ us ++ vs.drop (off + us.length)).toArray) := by
  have h1 := run_storeCells_at (P := P) b off T us 0 vs.toArray w hb (by simp; omega) (by intro u hu; exact isCell_one (List.all_eq_true.1 hv u hu))
  simpa using h1

theorem TL.effNone {op : Op} {v : Value} {L' : List Assn}
    (hr : ∀ a w, Sl n s a → Own σ L R w → ∀ o : Oper, o.op = op → ∃ w', (execOp a.eval o).run P w = .ok (.value v) w' ∧ Own σ L' R w')
    (h : TL P n σ R ops Q l s L') : TL P n σ R ops Q (⟨none, op, ty, pos, af, none⟩ :: l) s L := fun a w hs hw =>
  wpList_plain rfl fun K hK => by
    obtain ⟨w', h1, h2⟩ := hr a w hs hw ⟨none, op, ty, pos, af, none⟩ rfl
    unfold Oper.wp
    rw [h1, Oper.upon_value]
    exact hK _ _ (h _ _ hs h2)

/-- clear of a whole row -/
theorem TL.clearAll {T E E' b k : Nat} {x : Operand} {vs : List Value} {z : Value} (hu : P.underlying T = some (.slice E)) (hz : ∀ w, (zeroValue E).run P w = .ok z w) (hz1 : z.cells = #[z]) (hz2 : isCell z = true)
    (hx : ev s x = some (.slice (some ⟨b, 0, none⟩) k k)) (hk : vs.length = k) (hm : Upd L (.row b vs E') (.row b (List.replicate k z) E') L')
    (h : TL P n σ R ops Q l s L') : TL P n σ R ops Q (⟨none, .call ⟨.builtin .clear, #[x], #[T]⟩, ty, pos, af, none⟩ :: l) s L :=
  TL.effNone (v := .tuple #[]) (fun a w hs hw o ho => by
    have hzc : Builtin.zeroCells #[z] k = (List.replicate k z).toArray := by
      unfold Builtin.zeroCells
      apply Array.ext'
      apply List.ext_getElem
      · simp
      · intro i h1 h2; simp [Nat.mod_one]
    obtain ⟨M, hm1, _⟩ := hm.takes
    have hb := (hw.holds hm1).blk
    refine ⟨w.setRow b (List.replicate k z).toArray, ?_, hw.setRow' hm⟩
    rw [execOp_builtin' _ o _ _ _ ho]
    simp only [List.map_toArray, List.map_cons, List.map_nil, hs.ev hx]
    refine run_v ?_
    by_cases hk0 : k = 0
    · subst hk0
      have hv : vs = [] := List.length_eq_zero_iff.1 hk
      subst hv
      have : w.setRow b (List.replicate 0 z).toArray = w := setRow_self w b #[] E' (0, 0) hb
      rw [this]
      simp [Builtin.clear_, run_underlying hu, Result.andThen]
    · have hst := storeCells_row (P := P) (off := 0) (us := List.replicate k z) hb (by simp [hk]) (by simp [hz2])
      have e : vs.take 0 ++ List.replicate k z ++ vs.drop (0 + (List.replicate k z).length) = List.replicate k z := by
        rw [List.drop_eq_nil_of_le (by simp [hk])]; simp
      rw [e] at hst
      cases k with
      | zero => exact absurd rfl hk0
      | succ k =>
        simp only [Builtin.clear_, List.getElem?_toArray, List.getElem?_cons_zero, Sem.run_bind, run_underlying hu, Result.andThen, hz, hz1, hzc, hst, Sem.run_pure]) h

/-- copy into a row -/
theorem TL.copy {d T E E' b off dl dc c : Nat} {p : Option Addr} {x y : Operand} {v : Value} {m : Nat} {vs us : List Value} {ats : Array TypeId} (hu : P.underlying T = some (.slice E)) (hk : ∀ w, (sizeOf E).run P w = .ok 1 w)
    (hx : ev s x = some (.slice (some ⟨b, off, none⟩) dl dc)) (hy : ev s y = some v) (hm0 : v = .slice p m c) (hc : Cells P L (.slice p m c) (Nat.min m dl) us) (hl : us.length = Nat.min m dl) (hv : us.all isCell = true)
    (hm : Upd L (.row b vs E') (.row b (vs.take off ++ us ++ vs.drop (off + us.length)) E') L') (hle : off + us.length ≤ vs.length) (ha : ats[0]? = some T) (hn : Nat.blt d n = true)
    (h : TL P n σ R ops Q l ((d, .int .i64 (Nat.min m dl)) :: s) L') : TL P n σ R ops Q (⟨some d, .call ⟨.builtin .copy, #[x, y], ats⟩, ty, pos, af, none⟩ :: l) s L :=
  TL.eff hn (fun a w hs hw o ho => by
    obtain ⟨M, hm1, _⟩ := hm.takes
    have hb := (hw.holds hm1).blk
    refine ⟨w.setRow b (vs.take off ++ us ++ vs.drop (off + us.length)).toArray, ?_, hw.setRow' hm⟩
    rw [execOp_builtin' _ o _ _ _ ho]
    simp only [List.map_toArray, List.map_cons, List.map_nil, hs.ev hx, hs.ev hy]
    refine run_v ?_
    subst hm0
    have h1 := hc w 1 hw.facts (by omega)
    have hst := storeCells_row (P := P) hb hle hv
    simp only [Builtin.copy_, ha, List.getElem?_toArray, List.getElem?_cons_zero, List.getElem?_cons_succ, Sem.run_bind, run_underlying hu, Result.andThen, Builtin.lenOf, Sem.run_pure, hk, h1, hst, goInt]) h
end

section
variable {P : Program} {n : Nat} {σ : Env} {R : Assn} {Q : Exit → Act → World → Prop} {s : Slots} {L L' L'' : List Assn} {ops : Array Oper} {l : List Oper} {ty : Nat} {pos : String} {af : Array Edge}
/-- copy from a row into a row -/
theorem TL.copyRow {d T E E' b off dl dc k bs so sm sc Ts : Nat} {x y : Operand} {vs us ls new : List Value} {H' : List Assn} {ats : Array TypeId} (hu : P.underlying T = some (.slice E)) (hz : ∀ w, (sizeOf E).run P w = .ok 1 w)
    (hx : ev s x = some (.slice (some ⟨b, off, none⟩) dl dc)) (hy : ev s y = some (.slice (some ⟨bs, so, none⟩) sm sc)) (hk : Nat.min sm dl = k) (hs : Take L (.row bs ls Ts) H') (hc : (ls.drop so).take k = us) (hl : us.length = k) (hv : us.all isCell = true)
    (hm : Upd L (.row b vs E') (.row b new E') L') (hnew : vs.take off ++ us ++ vs.drop (off + k) = new) (hle : off + k ≤ vs.length) (ha : ats[0]? = some T) (hn : Nat.blt d n = true)
    (h : TL P n σ R ops Q l ((d, .int .i64 k) :: s) L') : TL P n σ R ops Q (⟨some d, .call ⟨.builtin .copy, #[x, y], ats⟩, ty, pos, af, none⟩ :: l) s L := by
  subst hk; subst hnew
  refine TL.copy hu hz hx hy rfl (Cells.row hs (by rw [hl]; exact hc)) hl hv (by rw [hl]; exact hm) (by rw [hl]; exact hle) ha hn h
end
theorem wpList_mono' {P : Program} {ops : Array Oper} {Q Q' : Exit → Act → World → Prop} (hq : ∀ e a w, Q e a w → Q' e a w) : ∀ {l : List Oper} {a : Act} {w : World}, wpList P ops Q l a w → wpList P ops Q' l a w := by
  intro l
  induction l with
  | nil => intro a w h; exact hq _ _ _ h
  | cons o l ih =>
    intro a w h
    unfold wpList at h ⊢
    split
    · rename_i hw; rw [if_pos hw] at h
      rcases h with h | ⟨h1, a0, w0, h2⟩
      · left
        unfold Oper.wp at *
        generalize (execOp a.eval o).run P w = r at *
        cases r with
        | ok x w' =>
          cases x <;> simp only [Oper.upon] at h ⊢ <;> first | exact ih h | skip
          case enter f args =>
            refine Calls.mono h fun e w'' he => ?_
            cases e with
            | returned v => exact ih he
            | panicked c => exact hq _ _ _ he
            | outgrown => obtain ⟨a0, w0, h⟩ := he; exact ⟨a0, w0, hq _ _ _ h⟩
          case row row args => exact Rows.mono h fun v w'' he => ih he
        | halt x w' => cases x <;> simp only [Oper.upon] at h ⊢ <;> exact hq _ _ _ h
      · exact .inr ⟨h1, a0, w0, hq _ _ _ h2⟩
    · rename_i hw; rw [if_neg hw] at h; exact ih h

/-! ### guarded tests, without parting the walk -/
theorem Sub.rfl' {s : Slots} : Sub s s := fun _ _ h => h
theorem Sub.push {s s' : Slots} {t : Nat} {v : Value} (h0 : lk s' t = none) (h : Sub s s') : Sub ((t, v) :: s) s' := fun e u he => by
  simp only [lk]
  cases hb : Nat.beq t e with
  | true => have e1 : t = e := Nat.eq_of_beq_eq_true hb; subst e1; rw [h0] at he; cases he
  | false => exact h e u he
theorem Sub.pushSame {s s' : Slots} {t : Nat} {v : Value} (h0 : lk s' t = some v) (h : Sub s s') : Sub ((t, v) :: s) s' := fun e u he => by
  simp only [lk]
  cases hb : Nat.beq t e with
  | true => have e1 : t = e := Nat.eq_of_beq_eq_true hb; subst e1; rw [h0] at he; exact he
  | false => exact h e u he

section
variable {P : Program} {n : Nat} {σ : Env} {R : Assn} {Q : Exit → Act → World → Prop} {s : Slots} {L : List Assn} {ops : Array Oper} {l : List Oper}
/-- behind a piece of a region: these slots, these items -/
def Keep (n : Nat) (σ : Env) (R : Assn) (s : Slots) (L : List Assn) : Act → World → Prop := fun a w => Sl n s a ∧ Own σ L R w
theorem TQ.keep {s' : Slots} (h : Sub s s') : TQ n σ R (Exit.then (Keep n σ R s' L) Q) .normal s L := fun _ _ ha hw => ⟨ha.sub h, hw⟩
theorem TQ.keepE {s' : Slots} {L' : List Assn} (h : Sub s s') (hL : Ent L L') : TQ n σ R (Exit.then (Keep n σ R s' L') Q) .normal s L := fun _ _ ha hw => ⟨ha.sub h, hL _ _ _ hw⟩
theorem wpList_append {l1 l2 : List Oper} : ∀ {a : Act} {w : World}, wpList P ops (Exit.then (fun a w => wpList P ops Q l2 a w) Q) l1 a w → wpList P ops Q (l1 ++ l2) a w := by
  induction l1 with
  | nil => intro a w h; exact h
  | cons o l1 ih =>
    intro a w h
    simp only [List.cons_append]
    unfold wpList at h ⊢
    split
    · rename_i hw; rw [if_pos hw] at h
      rcases h with h | ⟨h1, h2⟩
      · left
        unfold Oper.wp at *
        generalize (execOp a.eval o).run P w = r at *
        cases r with
        | ok x w' =>
          cases x <;> simp only [Oper.upon] at h ⊢ <;> first | exact ih h | exact h | skip
          case enter f args =>
            refine Calls.mono h fun e w'' he => ?_
            cases e <;> first | exact ih he | exact he
          case row row args => exact Rows.mono h fun v w'' he => ih he
        | halt x w' => cases x <;> simp only [Oper.upon] at h ⊢ <;> exact h
      · exact .inr ⟨h1, h2⟩
    · rename_i hw; rw [if_neg hw] at h; exact ih h
theorem TL.cut (k : Nat) {s' : Slots} {L' : List Assn} (h1 : TL P n σ R ops (Exit.then (Keep n σ R s' L') Q) (l.take k) s L) (h2 : TL P n σ R ops Q (l.drop k) s' L') : TL P n σ R ops Q l s L := fun a w ha hw => by
  have h := h1 a w ha hw
  rw [← List.take_append_drop k l]
  refine wpList_append ?_
  refine wpList_mono' (fun e a w hq => ?_) h
  cases e with
  | normal => exact h2 a w hq.1 hq.2
  | _ => exact hq
/-- 'b && ..': the rest is reckoned only if b -/
theorem TL.andG {k dj d : Nat} {b c : Bool} (hb : lk s dj = some (.bool b))
    (h1 : b = true → lk s dj = some (.bool true) → TL P n σ R ops (Exit.then (Keep n σ R ((d, .bool c) :: s) L) Q) (l.take k) ((dj, .bool true) :: s) L)
    (h0 : b = false → lk s dj = some (.bool false) → TL P n σ R ops (Exit.then (Keep n σ R ((d, .bool false) :: s) L) Q) (l.take k) ((dj, .bool false) :: s) L)
    (h2 : TL P n σ R ops Q (l.drop k) ((d, .bool (b && c)) :: s) L) : TL P n σ R ops Q l s L := by
  refine TL.cut k (s' := (d, .bool (b && c)) :: s) (L' := L) ?_ h2
  cases b with
  | true => exact (h1 rfl hb).conv (Sub.cons hb Sub.rfl') (Ent.refl L)
  | false => exact (h0 rfl hb).conv (Sub.cons hb Sub.rfl') (Ent.refl L)
theorem TL.orG {k dj d : Nat} {b c : Bool} (hb : lk s dj = some (.bool b))
    (h1 : b = false → lk s dj = some (.bool false) → TL P n σ R ops (Exit.then (Keep n σ R ((d, .bool c) :: s) L) Q) (l.take k) ((dj, .bool false) :: s) L)
    (h0 : b = true → lk s dj = some (.bool true) → TL P n σ R ops (Exit.then (Keep n σ R ((d, .bool true) :: s) L) Q) (l.take k) ((dj, .bool true) :: s) L)
    (h2 : TL P n σ R ops Q (l.drop k) ((d, .bool (b || c)) :: s) L) : TL P n σ R ops Q l s L := by
  refine TL.cut k (s' := (d, .bool (b || c)) :: s) (L' := L) ?_ h2
  cases b with
  | false => exact (h1 rfl hb).conv (Sub.cons hb Sub.rfl') (Ent.refl L)
  | true => exact (h0 rfl hb).conv (Sub.cons hb Sub.rfl') (Ent.refl L)
theorem TL.andD {k dj d : Nat} {p q : Prop} [Decidable p] [Decidable q] (hb : lk s dj = some (.bool (decide p)))
    (h1 : p → lk s dj = some (.bool true) → TL P n σ R ops (Exit.then (Keep n σ R ((d, .bool (decide q)) :: s) L) Q) (l.take k) ((dj, .bool true) :: s) L)
    (h0 : ¬ p → lk s dj = some (.bool false) → TL P n σ R ops (Exit.then (Keep n σ R ((d, .bool false) :: s) L) Q) (l.take k) ((dj, .bool false) :: s) L)
    (h2 : TL P n σ R ops Q (l.drop k) ((d, .bool (decide (p ∧ q))) :: s) L) : TL P n σ R ops Q l s L :=
  TL.andG (c := decide q) hb (fun h hd => h1 (of_decide_eq_true h) hd) (fun h hd => h0 (of_decide_eq_false h) hd) (by rw [← Bool.decide_and]; exact h2)
theorem TL.orD {k dj d : Nat} {p q : Prop} [Decidable p] [Decidable q] (hb : lk s dj = some (.bool (decide p)))
    (h1 : ¬ p → lk s dj = some (.bool false) → TL P n σ R ops (Exit.then (Keep n σ R ((d, .bool (decide q)) :: s) L) Q) (l.take k) ((dj, .bool false) :: s) L)
    (h0 : p → lk s dj = some (.bool true) → TL P n σ R ops (Exit.then (Keep n σ R ((d, .bool true) :: s) L) Q) (l.take k) ((dj, .bool true) :: s) L)
    (h2 : TL P n σ R ops Q (l.drop k) ((d, .bool (decide (p ∨ q))) :: s) L) : TL P n σ R ops Q l s L :=
  TL.orG (c := decide q) hb (fun h hd => h1 (of_decide_eq_false h) hd) (fun h hd => h0 (of_decide_eq_true h) hd) (by rw [← Bool.decide_or]; exact h2)
theorem TL.boolAnd {d : Nat} {p q : Prop} {ip : Decidable p} {iq : Decidable q} (h : TL P n σ R ops Q l ((d, .bool (decide (p ∧ q))) :: s) L) : TL P n σ R ops Q l ((d, .bool (decide p && decide q)) :: s) L := by
  rw [← Bool.decide_and]; exact h
theorem TL.boolOr {d : Nat} {p q : Prop} {ip : Decidable p} {iq : Decidable q} (h : TL P n σ R ops Q l ((d, .bool (decide (p ∨ q))) :: s) L) : TL P n σ R ops Q l ((d, .bool (decide p || decide q)) :: s) L := by
  rw [← Bool.decide_or]; exact h
/-- a piece of code that reckons a bool into a slot: what follows, once -/
theorem TC.midB {d : Nat} {c : Bool} {co : Code} (h1 : TC P n σ R co (Exit.then (Keep n σ R ((d, .bool c) :: s) L) Q) s L) (h2 : TQ n σ R Q .normal ((d, .bool c) :: s) L) : TC P n σ R co Q s L := fun a w ha hw =>
  wp_mono (h1 a w ha hw) (fun e a w hq => by
    cases e with
    | normal => exact h2 a w hq.1 hq.2
    | _ => exact hq)
end
end Go.Wd
