/- PROVED HERE: rules of assertions with a footprint, and of the model's operations over them. No condition beyond each theorem's own. -/
import Derived.Test.YtkpomphooljgmaaGreatDoorBase7
namespace Go.Wd
open Go
/-! ### a slice that is read, wherever its elements (of one cell) lie -/
def Rd (A : Assn) (v : Value) (us : List Value) : Prop := ∀ w, Holds A w → (∃ p, v = .slice p 0 0 ∧ us = []) ∨ ∃ g off c, v = .slice (some ⟨g, off, none⟩) us.length c ∧ us.length ≤ c ∧ ∀ j u, us[j]? = some u → w.cell? ⟨g, off + j, none⟩ = some u
theorem Rd.row {g off n c T : Nat} {l us : List Value} (hn : us.length = n) (hc : (l.drop off).take n = us) (hle : n ≤ c) : Rd (.row g l T) (.slice (some ⟨g, off, none⟩) n c) us := fun w hw => by
  subst hn
  refine .inr ⟨g, off, c, rfl, hle, fun j u hj => ?_⟩
  rw [row_cell hw.blk]
  rw [← hc, List.getElem?_take] at hj
  split at hj
  · rw [List.getElem?_drop] at hj; exact hj
  · cases hj
theorem Rd.gsl {E n : Nat} {v : Value} {us : List Value} : Rd (GSl E 1 v n us) v us := fun w hw => by
  obtain ⟨F, hown, _⟩ := hw
  have hlen : us.length = n := by simpa using hown.1
  rcases hown.2 with ⟨h1, h2⟩ | ⟨b, cap, cur, h1, h2, h3, h4, h5⟩
  · exact .inl ⟨none, h1, by rw [h2] at hlen; exact List.eq_nil_of_length_eq_zero hlen⟩
  · subst hlen
    refine .inr ⟨b, 0, cap, h1, h4, fun j u hj => ?_⟩
    have hown' : w.ownsRow 0 E 1 (.slice (some ⟨b, 0, none⟩) us.length cap) us.length us := h1 ▸ hown
    have := hown'.cells (g := b) rfl j u hj
    rwa [add_none] at this
/-- a window in a row that is owned -/
def WinV (T : Nat) (v : Value) (us : List Value) : Assn := .ex fun x : Option (Nat × Nat × Nat × List Value) => match x with
  | none => .fact (v = .slice none 0 0 ∧ us = [])
  | some (g, off, cap, l) => .all [.fact (v = .slice (some ⟨g, off, none⟩) us.length cap ∧ (l.drop off).take us.length = us ∧ off + us.length ≤ l.length ∧ us.length ≤ cap), .row g l T]
theorem Rd.win {T : Nat} {v : Value} {us : List Value} : Rd (WinV T v us) v us := fun w hw => by
  obtain ⟨F, x, hx⟩ := hw
  rcases x with _ | ⟨g, off, cap, l⟩
  · exact .inl ⟨none, hx.1⟩
  · obtain ⟨F1, F2, ⟨⟨rfl, h2, h3, h4⟩, _⟩, h5, _⟩ := hx
    exact Rd.row rfl h2 h4 w (Holds.left ⟨F2, h5⟩)
theorem Rd.cell {A : Assn} {v : Value} {us : List Value} (hR : Rd A v us) {w : World} (h : Holds A w) : isCell v = true := by
  rcases hR w h with ⟨p, rfl, _⟩ | ⟨g, off, c, rfl, _⟩ <;> rfl
theorem WinV.row {T g off n cap : Nat} {l us : List Value} {L : List Assn} (hn : us.length = n) (h2 : (l.drop off).take n = us) (h3 : off + n ≤ l.length) (h4 : n ≤ cap) : Ent (.row g l T :: L) (WinV T (.slice (some ⟨g, off, none⟩) n cap) us :: L) := by
  subst hn
  refine Ent.trans (Ent.factR (φ := Value.slice (some ⟨g, off, none⟩) us.length cap = .slice (some ⟨g, off, none⟩) us.length cap ∧ (l.drop off).take us.length = us ∧ off + us.length ≤ l.length ∧ us.length ≤ cap) ⟨rfl, h2, h3, h4⟩) ?_
  refine Ent.trans (Ent.allR (M := [.fact _, .row g l T])) ?_
  exact Ent.exR (A := fun x : Option (Nat × Nat × Nat × List Value) => match x with
    | none => .fact (Value.slice (some ⟨g, off, none⟩) us.length cap = .slice none 0 0 ∧ us = [])
    | some (g', off', cap', l) => .all [.fact (Value.slice (some ⟨g, off, none⟩) us.length cap = .slice (some ⟨g', off', none⟩) us.length cap' ∧ (l.drop off').take us.length = us ∧ off' + us.length ≤ l.length ∧ us.length ≤ cap'), .row g' l T]) (some (g, off, cap, l))
theorem WinV.nil {T : Nat} {L : List Assn} : Ent L (WinV T (.slice none 0 0) [] :: L) := by
  refine Ent.trans (Ent.factR (φ := Value.slice none 0 0 = .slice none 0 0 ∧ ([] : List Value) = []) ⟨rfl, rfl⟩) ?_
  exact Ent.exR (A := fun x : Option (Nat × Nat × Nat × List Value) => match x with
    | none => .fact (Value.slice none 0 0 = .slice none 0 0 ∧ ([] : List Value) = [])
    | some (g', off', cap', l) => .all [.fact (Value.slice none 0 0 = .slice (some ⟨g', off', none⟩) ([] : List Value).length cap' ∧ (l.drop off').take ([] : List Value).length = [] ∧ off' + ([] : List Value).length ≤ l.length ∧ ([] : List Value).length ≤ cap'), .row g' l T]) none
theorem GSl.win {E n : Nat} {v : Value} {us : List Value} {L : List Assn} : Ent (GSl E 1 v n us :: L) (WinV E v us :: L) := by
  refine Ent.trans GSl.openE ?_
  refine Ent.exLR fun x => ?_
  rcases x with _ | ⟨g, cap, j⟩
  · refine Ent.factLR fun h => ?_
    obtain ⟨rfl, rfl, rfl⟩ := h
    exact WinV.nil
  · refine Ent.trans Ent.allLR ?_
    refine Ent.factLR fun h => ?_
    obtain ⟨rfl, h2, h3, h4, h5⟩ := h
    have h2' : us.length = n := by omega
    refine WinV.row h2' (by rw [List.drop_zero]; subst h2'; exact List.take_left) (by simp; omega) h3

section
variable {P : Program} {H : List Assn} {s : Slots}
theorem Val.lenRd {T E : Nat} {v : Value} {us : List Value} {x : Operand} {A : Assn} {H' : List Assn} (hu : P.underlying T = some (.slice E)) (hx : ev s x = some v) (hm : Take H A H') (hR : Rd A v us) : Val P H s (.call ⟨.builtin .len, #[x], #[T]⟩) (.int .i64 us.length) := fun n a w hs hw o ho => by
  rcases hR w (hw.get hm) with ⟨p, rfl, rfl⟩ | ⟨g, off, c, rfl, _⟩
  · exact Val.len (p := p) (k := 0) (c := 0) hu hx n a w hs hw o ho
  · exact Val.len hu hx n a w hs hw o ho
theorem Val.loadRd {x : Operand} {T g off i o1 : Nat} {c n : Nat} {us : List Value} {v : Value} {A : Assn} {H' : List Assn} (ht : ∀ w, (isAgg T).run P w = .ok false w) (hx : ev s x = some (.pointer (some ⟨g, o1, none⟩))) (hm : Take H A H') (hR : Rd A (.slice (some ⟨g, off, none⟩) n c) us) (hc : us[i]? = some v) (ho1 : o1 = off + i) : Val P H s (.load T x) v := fun _ a w hs hw o ho => by
  subst ho1
  have h1 : w.cell? ⟨g, off + i, none⟩ = some v := by
    rcases hR w (hw.get hm) with ⟨p, h, h0⟩ | ⟨g', off', c', h, _, h3⟩
    · subst h0; simp at hc
    · simp only [Value.slice.injEq, Option.some.injEq, Addr.mk.injEq, and_true] at h
      obtain ⟨⟨rfl, rfl⟩, _⟩ := h
      exact h3 i v hc
  unfold execOp; rw [ho]; simp only [hs.ev hx]
  refine run_v ?_
  simp only [Instr.loadAt, Instr.sureAddr, loadVar, Sem.run_bind, Sem.run_pure, Result.andThen, ht, run_load, h1, Bool.false_eq_true, if_false]
def capd : Value → Value
  | .slice p n _ => .slice p n n
  | v => v
theorem Val.sliceCap {T E z E' m k : Nat} {v : Value} {xs : List Value} {x hi mx : Operand} {H' : List Assn} (hu : P.underlying T = some (.slice E)) (hz : ∀ w, (sizeOf E).run P w = .ok z w) (hx : ev s x = some v) (hm : Take H (GSl E' k v m xs) H')
    (hh : ev s hi = some (.int .i64 m)) (hmx : ev s mx = some (.int .i64 m)) : Val P H s (.slice T x none (some hi) (some mx)) (capd v) := fun n a w hs hw o ho => by
  unfold execOp; rw [ho]; simp only [hs.ev hx, Option.map_some, Option.map_none, hs.ev hh, hs.ev hmx]
  refine run_v ?_
  obtain ⟨F, hown, _⟩ := hw.get hm
  rcases hown.2 with ⟨rfl, rfl⟩ | ⟨b, cap, cur, rfl, h2, h3, h4, h5⟩
  · simp [Instr.sliceAt, Instr.slice, Sem.run_bind, run_underlying hu, Result.andThen, Instr.sliceBounds, Instr.sliceBound, asIntOf, hz, capd]
  · have e : (m : Int) ≤ cap := by omega
    by_cases hc : m = 0
    · subst hc
      simp [Instr.sliceAt, Instr.slice, Sem.run_bind, run_underlying hu, Result.andThen, Instr.sliceBounds, Instr.sliceBound, asIntOf, hz, capd]
    · simp [Instr.sliceAt, Instr.slice, Sem.run_bind, run_underlying hu, Result.andThen, Instr.sliceBounds, Instr.sliceBound, asIntOf, hz, capd, h4, add_none]
/-- with all three bounds, on a slice that is there -/
theorem Val.slice3 {T E z b off k c : Nat} {i j m : Int} {x lo hi mx : Operand} {kl kh km : IntKind} (hu : P.underlying T = some (.slice E)) (hz : ∀ w, (sizeOf E).run P w = .ok z w) (hx : ev s x = some (.slice (some ⟨b, off, none⟩) k c))
    (hl : ev s lo = some (.int kl i)) (hh : ev s hi = some (.int kh j)) (hmx : ev s mx = some (.int km m)) (hb : 0 ≤ i ∧ i ≤ j ∧ j ≤ m ∧ m ≤ c ∧ i < m) :
    Val P H s (.slice T x (some lo) (some hi) (some mx)) (.slice (some ⟨b, off + i.toNat * z, none⟩) (j.toNat - i.toNat) (m.toNat - i.toNat)) := fun n a w hs _ o ho => by
  unfold execOp; rw [ho]; simp only [hs.ev hx, Option.map_some, hs.ev hl, hs.ev hh, hs.ev hmx]
  refine run_v ?_
  obtain ⟨i, rfl⟩ : ∃ k : Nat, i = k := ⟨i.toNat, by omega⟩
  obtain ⟨j, rfl⟩ : ∃ k : Nat, j = k := ⟨j.toNat, by omega⟩
  obtain ⟨m, rfl⟩ : ∃ k : Nat, m = k := ⟨m.toNat, by omega⟩
  have h1 : i ≤ j := by omega
  have h2 : j ≤ m := by omega
  have h3 : m ≤ c := by omega
  have h4 : m ≠ i := by omega
  simp [Instr.sliceAt, Instr.slice, Sem.run_bind, run_underlying hu, Result.andThen, Instr.sliceBounds, Instr.sliceBound, asIntOf, hz, h1, h2, h3, h4, add_none]
theorem Val.sliceHM {T E z b off k c : Nat} {j m : Int} {x hi mx : Operand} {kh km : IntKind} (hu : P.underlying T = some (.slice E)) (hz : ∀ w, (sizeOf E).run P w = .ok z w) (hx : ev s x = some (.slice (some ⟨b, off, none⟩) k c))
    (hh : ev s hi = some (.int kh j)) (hmx : ev s mx = some (.int km m)) (hb : 0 ≤ j ∧ j ≤ m ∧ m ≤ c) :
    Val P H s (.slice T x none (some hi) (some mx)) (.slice (some ⟨b, off, none⟩) j.toNat m.toNat) := fun n a w hs _ o ho => by
  unfold execOp; rw [ho]; simp only [hs.ev hx, Option.map_some, Option.map_none, hs.ev hh, hs.ev hmx]
  refine run_v ?_
  obtain ⟨j, rfl⟩ : ∃ k : Nat, j = k := ⟨j.toNat, by omega⟩
  obtain ⟨m, rfl⟩ : ∃ k : Nat, m = k := ⟨m.toNat, by omega⟩
  have h2 : j ≤ m := by omega
  have h3 : m ≤ c := by omega
  by_cases h4 : m = 0
  · subst h4
    have : j = 0 := by omega
    subst this
    simp [Instr.sliceAt, Instr.slice, Sem.run_bind, run_underlying hu, Result.andThen, Instr.sliceBounds, Instr.sliceBound, asIntOf, hz]
  · simp [Instr.sliceAt, Instr.slice, Sem.run_bind, run_underlying hu, Result.andThen, Instr.sliceBounds, Instr.sliceBound, asIntOf, hz, h2, h3, h4, add_none]
/-- of an array, up to a bound, with room up to a bound -/
theorem Val.sliceArrHM {T E z b off k : Nat} {j m : Int} {x hi mx : Operand} {kh km : IntKind} (hu : P.underlying T = some (.array k E)) (hz : ∀ w, (sizeOf E).run P w = .ok z w) (hx : ev s x = some (.pointer (some ⟨b, off, none⟩)))
    (hh : ev s hi = some (.int kh j)) (hmx : ev s mx = some (.int km m)) (hb : 0 ≤ j ∧ j ≤ m ∧ m ≤ k) :
    Val P H s (.slice T x none (some hi) (some mx)) (.slice (some ⟨b, off, none⟩) j.toNat m.toNat) := fun n a w hs _ o ho => by
  unfold execOp; rw [ho]; simp only [hs.ev hx, Option.map_some, Option.map_none, hs.ev hh, hs.ev hmx]
  refine run_v ?_
  obtain ⟨j, rfl⟩ : ∃ k : Nat, j = k := ⟨j.toNat, by omega⟩
  obtain ⟨m, rfl⟩ : ∃ k : Nat, m = k := ⟨m.toNat, by omega⟩
  have h2 : j ≤ m := by omega
  have h3 : m ≤ k := by omega
  by_cases h4 : m = 0
  · subst h4
    have : j = 0 := by omega
    subst this
    simp [Instr.sliceAt, Instr.sureAddr, Sem.run_bind, run_underlying hu, Result.andThen, Instr.sliceBounds, Instr.sliceBound, asIntOf, hz]
  · simp [Instr.sliceAt, Instr.sureAddr, Sem.run_bind, run_underlying hu, Result.andThen, Instr.sliceBounds, Instr.sliceBound, asIntOf, hz, h2, h3, h4, add_none]
theorem Val.sliceArrLo {T E z b off k : Nat} {j : Int} {x lo : Operand} {kh : IntKind} (hu : P.underlying T = some (.array k E)) (hz : ∀ w, (sizeOf E).run P w = .ok z w) (hx : ev s x = some (.pointer (some ⟨b, off, none⟩)))
    (hh : ev s lo = some (.int kh j)) (hb : 0 ≤ j ∧ j < k) :
    Val P H s (.slice T x (some lo) none none) (.slice (some ⟨b, off + j.toNat * z, none⟩) (k - j.toNat) (k - j.toNat)) := fun n a w hs _ o ho => by
  unfold execOp; rw [ho]; simp only [hs.ev hx, Option.map_some, Option.map_none, hs.ev hh]
  refine run_v ?_
  obtain ⟨j, rfl⟩ : ∃ k : Nat, j = k := ⟨j.toNat, by omega⟩
  have h2 : j ≤ k := by omega
  have h4 : k ≠ j := by omega
  simp [Instr.sliceAt, Instr.sureAddr, Sem.run_bind, run_underlying hu, Result.andThen, Instr.sliceBounds, Instr.sliceBound, asIntOf, hz, h2, h4, add_none]
theorem Val.sliceArrHi {T E z b off k : Nat} {j : Int} {x hi : Operand} {kh : IntKind} (hu : P.underlying T = some (.array k E)) (hz : ∀ w, (sizeOf E).run P w = .ok z w) (hx : ev s x = some (.pointer (some ⟨b, off, none⟩)))
    (hh : ev s hi = some (.int kh j)) (hb : 0 ≤ j ∧ j ≤ k ∧ 0 < k) :
    Val P H s (.slice T x none (some hi) none) (.slice (some ⟨b, off, none⟩) j.toNat k) := fun n a w hs _ o ho => by
  unfold execOp; rw [ho]; simp only [hs.ev hx, Option.map_some, Option.map_none, hs.ev hh]
  refine run_v ?_
  obtain ⟨j, rfl⟩ : ∃ k : Nat, j = k := ⟨j.toNat, by omega⟩
  have h2 : j ≤ k := by omega
  have h4 : k ≠ 0 := by omega
  simp [Instr.sliceAt, Instr.sureAddr, Sem.run_bind, run_underlying hu, Result.andThen, Instr.sliceBounds, Instr.sliceBound, asIntOf, hz, h2, h4, add_none]
/-- from a bound on; the pointer stays where nothing is left -/
theorem Val.sliceLoAny {T E z b off k c : Nat} {x lo : Operand} {ki : IntKind} {j : Int} (hu : P.underlying T = some (.slice E)) (hz : ∀ w, (sizeOf E).run P w = .ok z w) (hx : ev s x = some (.slice (some ⟨b, off, none⟩) k c)) (hl : ev s lo = some (.int ki j))
    (hj : 0 ≤ j ∧ j ≤ k) : Val P H s (.slice T x (some lo) none none) (.slice (some ⟨b, if c = j.toNat then off else off + j.toNat * z, none⟩) (k - j.toNat) (c - j.toNat)) := fun n a w hs _ o ho => by
  unfold execOp; rw [ho]; simp only [hs.ev hx, Option.map_some, Option.map_none, hs.ev hl]
  refine run_v ?_
  have h2 : 0 ≤ j ∧ j ≤ (k : Int) := hj
  by_cases h1 : c = j.toNat
  · simp [Instr.sliceAt, Instr.slice, Sem.run_bind, run_underlying hu, Result.andThen, Instr.sliceBounds, Instr.sliceBound, asIntOf, if_pos h2, hz, h1]
  · simp [Instr.sliceAt, Instr.slice, Sem.run_bind, run_underlying hu, Result.andThen, Instr.sliceBounds, Instr.sliceBound, asIntOf, if_pos h2, hz, h1, add_none]
theorem firstCells_zero {P : Program} {w : World} {size : Nat} {p : Option Addr} : (Builtin.firstCells size 0 (.slice p 0 0)).run P w = .ok #[] w := by
  cases p <;> simp [Builtin.firstCells, loadCells, loadCellsFrom]
theorem Rd.cells {A : Assn} {H' : List Assn} {p : Option Addr} {m c k : Nat} {us : List Value} (hm : Take H A H') (hR : Rd A (.slice p m c) us) (hk : k ≤ us.length) : Cells P H (.slice p m c) k (us.take k) := fun w size hw hl => by
  have hsz : (us.take k).length = k := by simp; omega
  rcases hR w (hw.get hm) with ⟨p', h, rfl⟩ | ⟨g, off, c', h, _, h3⟩
  · simp at hk; subst hk; cases h; exact firstCells_zero
  · cases h
    have h1 := run_loadCells_list (P := P) w ⟨g, off, none⟩ (us.take k) (fun j u hj => by
      rw [add_none]
      rw [List.getElem?_take] at hj
      split at hj
      · exact h3 j u hj
      · cases hj)
    rw [hl] at h1
    exact h1
end
section
variable {P : Program} {n : Nat} {σ : Env} {R : Assn} {Q : Exit → Act → World → Prop} {s : Slots} {L L' : List Assn} {c : Code} {ops : Array Oper} {l : List Oper}
theorem TC.openRd {A : Assn} {v : Value} {us : List Value} (ht : Take L A L') (hR : Rd A v us) (h0 : (∃ p, v = .slice p 0 0) → us = [] → TC P n σ R c Q s L)
    (h1 : ∀ g off cp, v = .slice (some ⟨g, off, none⟩) us.length cp → us.length ≤ cp → TC P n σ R c Q s L) : TC P n σ R c Q s L := fun a w ha hw => by
  rcases hR w (hw.holds ht) with ⟨p, h, h'⟩ | ⟨g, off, cp, h, h', _⟩
  · exact h0 ⟨p, h⟩ h' a w ha hw
  · exact h1 g off cp h h' a w ha hw
theorem Own.tail {A : Assn} {w : World} (h : Own σ (A :: L) R w) : Own σ L R w := by
  obtain ⟨he, F, hF⟩ := h
  obtain ⟨F1, F2, _, h2, _⟩ := Assn.sep_assoc hF
  exact ⟨he, F2, h2⟩
end

theorem Own.snd {σ : Env} {A B : Assn} {L : List Assn} {R : Assn} {w : World} (h : Own σ (A :: B :: L) R w) : Own σ (A :: L) R w := by
  have h1 := h.pickAll (M := [B]) (rest := A :: L) (.cons (.there .here) .nil)
  exact Own.tail h1
/-- append of a slice that is read -/
theorem run_append_rd {P : Program} {σ : Env} {L L1 L2 : List Assn} {R : Assn} {w : World} {t ty E bytes n : Nat} {i : TypeInfo} {z v v2 : Value} {xs us : List Value} {A : Assn} (ht : P.underlying t = some (.slice E)) (hi : P.info? E = some i) (hz : i.zero = some z) (hs : i.size = 1) (hb : i.bytes = bytes)
    (hzs : z.cells.size = 1) (h : Own σ L R w) (hm : Take L (GSl E 1 v n xs) L1) (hg : Take L1 A L2) (hR : Rd A v2 us) (hv : us.all isCell = true)
    (h63 : n + us.length ≤ maxLen) (hbytes : (n + us.length) * bytes ≤ 140737488355328) :
    ∃ v' w', (Builtin.append_ #[t, t] ty #[v, v2]).run P w = .ok v' w' ∧ Own σ (GSl E 1 v' (n + us.length) (xs ++ us) :: L1) R w' := by
  have hw2 : Own σ (GSl E 1 v n xs :: L1) R w := h.pickAll (M := [GSl E 1 v n xs]) (.cons hm .nil)
  rcases hR w (hw2.holds (.there hg)) with ⟨p, rfl, rfl⟩ | ⟨g, off, c, rfl, hc, hcell⟩
  · obtain ⟨F1, hd, _⟩ := hw2.holds .here
    refine ⟨v, w, ?_, by simpa using hw2⟩
    rcases p with _ | a
    · exact run_append_owned_none w 0 t ty E i 1 ht hi v n xs hd
    · rcases hd.2 with ⟨rfl, rfl⟩ | ⟨b, cap, cur, rfl, hbg, hgb, hnc, hcm, hcs, htake⟩
      · simp [Builtin.append_, run_underlying ht, sizeOf, typeInfo, hi, Builtin.lenOf, Builtin.firstCells, storeCells, loadCells, loadCellsFrom]
      · simp [Builtin.append_, run_underlying ht, sizeOf, typeInfo, hi, Builtin.lenOf, Builtin.firstCells, storeCells, loadCells, loadCellsFrom, hnc]
  · exact run_append_gsl (t := t) (ty := ty) (c := c) (g := g) (off := off) (m := us.length) (us := us) ht hi hz hs hb hzs (by omega) h hm (by simp) (fun j u hj => by rw [add_none]; exact hcell j u hj) hv h63 hbytes
theorem run_append_capd {P : Program} {σ : Env} {L L1 L2 : List Assn} {R : Assn} {w : World} {t ty E bytes n : Nat} {i : TypeInfo} {z v v2 : Value} {xs us : List Value} {A : Assn} (ht : P.underlying t = some (.slice E)) (hi : P.info? E = some i) (hz : i.zero = some z) (hs : i.size = 1) (hb : i.bytes = bytes)
    (hzs : z.cells.size = 1) (h : Own σ L R w) (hm : Take L (GSl E 1 v n xs) L1) (hg : Take L1 A L2) (hR : Rd A v2 us) (hv : us.all isCell = true)
    (h63 : n + us.length ≤ maxLen) (hbytes : (n + us.length) * bytes ≤ 140737488355328) :
    ∃ v' w', (Builtin.append_ #[t, t] ty #[capd v, v2]).run P w = .ok v' w' ∧ Own σ (WinV E v' (xs ++ us) :: L1) R w' ∧ (us ≠ [] → Own σ (GSl E 1 v' (n + us.length) (xs ++ us) :: GSl E 1 v n xs :: L1) R w') := by
  have hw2 : Own σ (GSl E 1 v n xs :: L1) R w := h.pickAll (M := [GSl E 1 v n xs]) (.cons hm .nil)
  obtain ⟨F1, hown, hF1⟩ := hw2.holds .here
  rcases hown.2 with ⟨rfl, rfl⟩ | ⟨b, cap, cur, rfl, hbg, hgb, hnc, hcm, hcs, htake⟩
  · obtain ⟨v', w', h1, h2⟩ := run_append_rd (ty := ty) ht hi hz hs hb hzs h hm hg hR hv h63 hbytes
    have hxs : xs = [] := List.eq_nil_of_length_eq_zero (by simpa using hown.1)
    subst hxs
    exact ⟨v', w', h1, GSl.win _ _ _ h2, fun _ => (Ent.trans GSl.emp (Ent.trans (Ent.perm (M := [GSl E 1 v' (0 + us.length) ([] ++ us)]) (rest := GSl E 1 (.slice none 0 0) 0 [] :: L1) (.cons (.there .here) .nil)) (Ent.refl _))) _ _ _ h2⟩
  · have hlen : xs.length = n := by simpa using hown.1
    have hopen := GSl.openE _ _ _ hw2
    by_cases hu : us = []
    · subst hu
      refine ⟨.slice (some ⟨b, 0, none⟩) n n, w, ?_, ?_, fun h => absurd rfl h⟩
      · rcases hR w (hw2.holds (.there hg)) with ⟨p, rfl, _⟩ | ⟨g, off, c, rfl, hc, hcell⟩
        · cases p <;> simp [capd, Builtin.append_, run_underlying ht, sizeOf, typeInfo, hi, Builtin.lenOf, Builtin.firstCells, storeCells, loadCells, loadCellsFrom]
        · simp [capd, Builtin.append_, run_underlying ht, sizeOf, typeInfo, hi, Builtin.lenOf, Builtin.firstCells, storeCells, loadCells, loadCellsFrom]
      · rw [List.append_nil]
        have hE : Ent (GSl E 1 (.slice (some ⟨b, 0, none⟩) n cap) n xs :: L1) (WinV E (.slice (some ⟨b, 0, none⟩) n n) xs :: L1) := by
          refine Ent.trans GSl.openE ?_
          refine Ent.exLR fun x => ?_
          rcases x with _ | ⟨g, cap', j⟩
          · exact Ent.factLR fun h => by cases h.1
          · refine Ent.trans Ent.allLR ?_
            refine Ent.factLR fun h => ?_
            obtain ⟨h1, h2, h3, h4, h5⟩ := h
            cases h1
            refine WinV.row hlen (by rw [List.drop_zero]; subst hlen; exact List.take_left) (by simp; omega) (Nat.le_refl _)
        exact hE _ _ _ hw2
    · have hpos : 0 < us.length := List.length_pos_iff.2 hu
      rcases hR w (hw2.holds (.there hg)) with ⟨_, _, h0⟩ | ⟨g, off, c, rfl, hc, hcell⟩
      · exact absurd h0 hu
      · have holds : ∀ j u, xs[j]? = some u → w.cell? ((⟨b, 0, none⟩ : Addr).add j) = some u := hown.cells (g := b) rfl
        have hr := run_append_grow (P := P) w t ty E i z ht hi hz ⟨b, 0, none⟩ n n xs (by rw [hs]; omega) holds ⟨g, off, none⟩ us.length c us (by rw [hs]; omega) (fun j u hj => by rw [add_none]; exact hcell j u hj) (by omega) (by simp only [maxLen] at h63; omega) (growslice_fits (by omega) (by rw [hb]; exact hbytes))
        have hnew : Own σ (GSl E 1 (.slice (some ⟨w.heap.size, 0, none⟩) (n + us.length) (grownCap w (n + us.length) n E)) (n + us.length) (xs ++ us) :: GSl E 1 (.slice (some ⟨b, 0, none⟩) n cap) n xs :: L1) R (w.drew.alloc (.cells (xs.toArray ++ us.toArray ++ Builtin.zeroCells z.cells (grownCap w (n + us.length) n E - (n + us.length))) E)) := by
          refine Own.gslAlloc (L := GSl E 1 (.slice (some ⟨b, 0, none⟩) n cap) n xs :: L1) hw2 ⟨rfl, rfl, rfl, by simp, fun x hx _ => heap_alloc_old w.drew _ hx⟩ ?_
          have hge := grownCap_ge w (n + us.length) n E
          have hcm2 := grownCap_le_maxLen w (n + us.length) n E h63
          refine ⟨by rw [List.length_append, hlen]; omega, .inr ⟨w.heap.size, _, _, rfl, Nat.le_refl _, heap_alloc_new w.drew _, hge, hcm2, ?_, ?_⟩⟩
          · simp only [Array.size_append, List.size_toArray, size_zeroCells, hzs, hlen]; omega
          · simp only [Array.toList_append]
            have : (xs ++ us).length = (n + us.length) * 1 := by rw [List.length_append, hlen]; omega
            rw [← this]; exact List.take_left
        exact ⟨_, _, hr, GSl.win _ _ _ hnew.snd, fun _ => hnew⟩
section
variable {P : Program} {n : Nat} {σ : Env} {R : Assn} {Q : Exit → Act → World → Prop} {s : Slots} {L L' L1 L2 : List Assn} {ops : Array Oper} {l : List Oper} {ty : Nat} {pos : String} {af : Array Edge}
theorem TL.appendR {d t E bytes n0 : Nat} {i : TypeInfo} {z v v2 : Value} {xs us : List Value} {x y : Operand} {A : Assn} (hR : Rd A v2 us) (ht : P.underlying t = some (.slice E)) (hi : ∀ w, (typeInfo E).run P w = .ok i w) (hz : i.zero = some z) (hs : i.size = 1) (hb : i.bytes = bytes)
    (hzs : z.cells.size = 1) (hx : ev s x = some v) (hy : ev s y = some v2) (hm : Take L (GSl E 1 v n0 xs) L1) (hg : Take L1 A L2) (hv : us.all isCell = true)
    (h63 : (n0 + us.length) * (bytes + 1) ≤ 140737488355328) (hn : Nat.blt d n = true)
    (h : ∀ v', isCell v' = true → TL P n σ R ops Q l ((d, v') :: s) (GSl E 1 v' (n0 + us.length) (xs ++ us) :: L1)) : TL P n σ R ops Q (⟨some d, .call ⟨.builtin .append, #[x, y], #[t, t]⟩, ty, pos, af, none⟩ :: l) s L :=
  TL.effEx (X := {v : Value // isCell v = true}) (v := fun v' => v'.1) (L' := fun v' => GSl E 1 v'.1 (n0 + us.length) (xs ++ us) :: L1) hn (fun a w hsl hw o ho => by
    have h1 : (n0 + us.length) * bytes ≤ 140737488355328 := Nat.le_trans (Nat.mul_le_mul_left _ (by omega)) h63
    have h2 : n0 + us.length ≤ 140737488355328 := Nat.le_trans (Nat.le_mul_of_pos_right _ (by omega)) h63
    obtain ⟨v', w', hr, ho2⟩ := run_append_rd (P := P) (t := t) (ty := o.type) ht (info_of hi) hz hs hb hzs hw hm hg hR hv (by simp only [maxLen]; omega) h1
    refine ⟨⟨v', GSl.cell (ho2.holds .here)⟩, w', ?_, ho2⟩
    rw [execOp_builtin' _ o _ _ _ ho]
    simp only [List.map_toArray, List.map_cons, List.map_nil, hsl.ev hx, hsl.ev hy]
    exact run_v hr) (fun v' => h v'.1 v'.2)
/-- onto a slice without room: what was there may be let go -/
theorem TL.appendC {d t E bytes n0 : Nat} {i : TypeInfo} {z v v2 : Value} {xs us : List Value} {x y : Operand} {A : Assn} (hR : Rd A v2 us) (ht : P.underlying t = some (.slice E)) (hi : ∀ w, (typeInfo E).run P w = .ok i w) (hz : i.zero = some z) (hs : i.size = 1) (hb : i.bytes = bytes)
    (hzs : z.cells.size = 1) (hx : ev s x = some (capd v)) (hy : ev s y = some v2) (hm : Take L (GSl E 1 v n0 xs) L1) (hg : Take L1 A L2) (hv : us.all isCell = true)
    (h63 : (n0 + us.length) * (bytes + 1) ≤ 140737488355328) (hn : Nat.blt d n = true)
    (h : ∀ v', isCell v' = true → TL P n σ R ops Q l ((d, v') :: s) (WinV E v' (xs ++ us) :: L1)) : TL P n σ R ops Q (⟨some d, .call ⟨.builtin .append, #[x, y], #[t, t]⟩, ty, pos, af, none⟩ :: l) s L :=
  TL.effEx (X := {v : Value // isCell v = true}) (v := fun v' => v'.1) (L' := fun v' => WinV E v'.1 (xs ++ us) :: L1) hn (fun a w hsl hw o ho => by
    have h1 : (n0 + us.length) * bytes ≤ 140737488355328 := Nat.le_trans (Nat.mul_le_mul_left _ (by omega)) h63
    have h2 : n0 + us.length ≤ 140737488355328 := Nat.le_trans (Nat.le_mul_of_pos_right _ (by omega)) h63
    obtain ⟨v', w', hr, ho2, _⟩ := run_append_capd (P := P) (t := t) (ty := o.type) ht (info_of hi) hz hs hb hzs hw hm hg hR hv (by simp only [maxLen]; omega) h1
    refine ⟨⟨v', Rd.win.cell (ho2.holds .here)⟩, w', ?_, ho2⟩
    rw [execOp_builtin' _ o _ _ _ ho]
    simp only [List.map_toArray, List.map_cons, List.map_nil, hsl.ev hx, hsl.ev hy]
    exact run_v hr) (fun v' => h v'.1 v'.2)
/-- onto a full slice, wherever it lies: into a new row -/
theorem TL.appendF {d t E bytes n0 b boff : Nat} {i : TypeInfo} {z v2 : Value} {xs us : List Value} {x y : Operand} {A B : Assn} (hB : Rd B (.slice (some ⟨b, boff, none⟩) n0 n0) xs) (hxl : xs.length = n0) (hR : Rd A v2 us) (hne : us ≠ []) (ht : P.underlying t = some (.slice E)) (hi : ∀ w, (typeInfo E).run P w = .ok i w) (hz : i.zero = some z) (hs : i.size = 1) (hb : i.bytes = bytes)
    (hzs : z.cells.size = 1) (hx : ev s x = some (.slice (some ⟨b, boff, none⟩) n0 n0)) (hy : ev s y = some v2) (hm : Take L B L1) (hg : Take L A L2)
    (h63 : (n0 + us.length) * (bytes + 1) ≤ 140737488355328) (hn : Nat.blt d n = true)
    (h : ∀ v', isCell v' = true → TL P n σ R ops Q l ((d, v') :: s) (GSl E 1 v' (n0 + us.length) (xs ++ us) :: L)) : TL P n σ R ops Q (⟨some d, .call ⟨.builtin .append, #[x, y], #[t, t]⟩, ty, pos, af, none⟩ :: l) s L :=
  TL.effEx (X := {v : Value // isCell v = true}) (v := fun v' => v'.1) (L' := fun v' => GSl E 1 v'.1 (n0 + us.length) (xs ++ us) :: L) hn (fun a w hsl hw o ho => by
    have h1 : (n0 + us.length) * bytes ≤ 140737488355328 := Nat.le_trans (Nat.mul_le_mul_left _ (by omega)) h63
    have h2 : n0 + us.length ≤ 140737488355328 := Nat.le_trans (Nat.le_mul_of_pos_right _ (by omega)) h63
    have h3 : n0 + us.length ≤ maxLen := by simp only [maxLen]; omega
    have hpos : 0 < us.length := List.length_pos_iff.2 hne
    rcases hR w (hw.holds hg) with ⟨_, _, h0⟩ | ⟨g, off, c, rfl, hc, hcell⟩
    · exact absurd h0 hne
    · have hcell' : ∀ j u, xs[j]? = some u → w.cell? ⟨b, boff + j, none⟩ = some u := by
        rcases hB w (hw.holds hm) with ⟨_, _, h0⟩ | ⟨b', off', c', he, hc', hcell'⟩
        · subst h0; intro j u hj; simp at hj
        · simp only [Value.slice.injEq, Option.some.injEq, Addr.mk.injEq, and_true] at he
          obtain ⟨⟨rfl, rfl⟩, _, rfl⟩ := he
          exact hcell'
      · have hr := run_append_grow (P := P) w t o.type E i z ht (info_of hi) hz ⟨b, boff, none⟩ n0 n0 xs (by rw [hs]; omega) (fun j u hj => by rw [add_none]; exact hcell' j u hj) ⟨g, off, none⟩ us.length c us (by rw [hs]; omega) (fun j u hj => by rw [add_none]; exact hcell j u hj) (by omega) (by omega) (growslice_fits (by omega) (by rw [hb]; exact h1))
        have hex := run_v hr
        rw [show Builtin.append_ #[t, t] o.type #[.slice (some ⟨b, boff, none⟩) n0 n0, .slice (some ⟨g, off, none⟩) us.length c] = Builtin.append_ #[t, t] o.type #[a.eval x, a.eval y] by rw [hsl.ev hx, hsl.ev hy]] at hex
        refine ⟨⟨.slice (some ⟨w.heap.size, 0, none⟩) (n0 + us.length) (grownCap w (n0 + us.length) n0 E), rfl⟩, _, (by rw [execOp_builtin' _ o _ _ _ ho]; simp only [List.map_toArray, List.map_cons, List.map_nil]; exact hex), ?_⟩
        refine Own.gslAlloc (L := L) hw ⟨rfl, rfl, rfl, by simp, fun x hx _ => heap_alloc_old w.drew _ hx⟩ ?_
        have hge := grownCap_ge w (n0 + us.length) n0 E
        have hcm2 := grownCap_le_maxLen w (n0 + us.length) n0 E h3
        refine ⟨by rw [List.length_append, hxl]; omega, .inr ⟨w.heap.size, _, _, rfl, Nat.le_refl _, heap_alloc_new w.drew _, hge, hcm2, ?_, ?_⟩⟩
        · simp only [Array.size_append, List.size_toArray, size_zeroCells, hzs, hxl]; omega
        · simp only [Array.toList_append]
          have : (xs ++ us).length = (n0 + us.length) * 1 := by rw [List.length_append, hxl]; omega
          rw [← this]; exact List.take_left) (fun v' => h v'.1 v'.2)
theorem TL.appendCG {d t E bytes n0 : Nat} {i : TypeInfo} {z v v2 : Value} {xs us : List Value} {x y : Operand} {A : Assn} (hR : Rd A v2 us) (hne : us ≠ []) (ht : P.underlying t = some (.slice E)) (hi : ∀ w, (typeInfo E).run P w = .ok i w) (hz : i.zero = some z) (hs : i.size = 1) (hb : i.bytes = bytes)
    (hzs : z.cells.size = 1) (hx : ev s x = some (capd v)) (hy : ev s y = some v2) (hm : Take L (GSl E 1 v n0 xs) L1) (hg : Take L1 A L2) (hv : us.all isCell = true)
    (h63 : (n0 + us.length) * (bytes + 1) ≤ 140737488355328) (hn : Nat.blt d n = true)
    (h : ∀ v', isCell v' = true → TL P n σ R ops Q l ((d, v') :: s) (GSl E 1 v' (n0 + us.length) (xs ++ us) :: GSl E 1 v n0 xs :: L1)) : TL P n σ R ops Q (⟨some d, .call ⟨.builtin .append, #[x, y], #[t, t]⟩, ty, pos, af, none⟩ :: l) s L :=
  TL.effEx (X := {v : Value // isCell v = true}) (v := fun v' => v'.1) (L' := fun v' => GSl E 1 v'.1 (n0 + us.length) (xs ++ us) :: GSl E 1 v n0 xs :: L1) hn (fun a w hsl hw o ho => by
    have h1 : (n0 + us.length) * bytes ≤ 140737488355328 := Nat.le_trans (Nat.mul_le_mul_left _ (by omega)) h63
    have h2 : n0 + us.length ≤ 140737488355328 := Nat.le_trans (Nat.le_mul_of_pos_right _ (by omega)) h63
    obtain ⟨v', w', hr, _, ho2⟩ := run_append_capd (P := P) (t := t) (ty := o.type) ht (info_of hi) hz hs hb hzs hw hm hg hR hv (by simp only [maxLen]; omega) h1
    refine ⟨⟨v', GSl.cell ((ho2 hne).holds .here)⟩, w', ?_, ho2 hne⟩
    rw [execOp_builtin' _ o _ _ _ ho]
    simp only [List.map_toArray, List.map_cons, List.map_nil, hsl.ev hx, hsl.ev hy]
    exact run_v hr) (fun v' => h v'.1 v'.2)
end
/-! what is plainly known of a slice's value -/
def Shp (v : Value) (n : Nat) : Prop := (∃ p, v = .slice p 0 0 ∧ n = 0) ∨ ∃ g off cap, v = .slice (some ⟨g, off, none⟩) n cap ∧ n ≤ cap
theorem Rd.shp {A : Assn} {v : Value} {us : List Value} (hR : Rd A v us) {w : World} (h : Holds A w) : Shp v us.length := by
  rcases hR w h with ⟨p, rfl, rfl⟩ | ⟨g, off, c, rfl, h1, _⟩
  · exact .inl ⟨p, rfl, rfl⟩
  · exact .inr ⟨g, off, c, rfl, h1⟩
theorem GSl.shp {E k n : Nat} {v : Value} {us : List Value} {w : World} (h : Holds (GSl E k v n us) w) : Shp v n := by
  obtain ⟨F, hown, _⟩ := h
  rcases hown.2 with ⟨h1, h2⟩ | ⟨b, cap, cur, h1, h2, h3, h4, h5⟩
  · exact .inl ⟨none, h1, h2⟩
  · exact .inr ⟨b, 0, cap, h1, h4⟩
theorem Shp.cell {v : Value} {n : Nat} (h : Shp v n) : isCell v = true := by
  rcases h with ⟨p, rfl, _⟩ | ⟨g, off, c, rfl, _⟩ <;> rfl
section
variable {P : Program} {n : Nat} {σ : Env} {R : Assn} {Q : Exit → Act → World → Prop} {s : Slots} {L L' L1 L2 H : List Assn} {ops : Array Oper} {l : List Oper} {ty : Nat} {pos : String} {af : Array Edge} {c : Code}
theorem TC.shpG {E k m : Nat} {v : Value} {us : List Value} (ht : Take L (GSl E k v m us) L') (h : Shp v m → TC P n σ R c Q s L) : TC P n σ R c Q s L := fun a w ha hw => h (GSl.shp (hw.holds ht)) a w ha hw
theorem TC.shpR {A : Assn} {v : Value} {us : List Value} (hR : Rd A v us) (ht : Take L A L') (h : Shp v us.length → TC P n σ R c Q s L) : TC P n σ R c Q s L := fun a w ha hw => h (hR.shp (hw.holds ht)) a w ha hw
theorem Val.lenS {T E m : Nat} {v : Value} {x : Operand} (hu : P.underlying T = some (.slice E)) (hx : ev s x = some v) (hS : Shp v m) : Val P H s (.call ⟨.builtin .len, #[x], #[T]⟩) (.int .i64 m) := by
  rcases hS with ⟨p, rfl, rfl⟩ | ⟨g, off, c, rfl, _⟩
  · exact Val.len (p := p) (k := 0) (c := 0) hu hx
  · exact Val.len hu hx
theorem Val.lenE {T E k m c : Nat} {p : Option Addr} {x : Operand} (hu : P.underlying T = some (.slice E)) (hx : ev s x = some (.slice p k c)) (hm : k = m) : Val P H s (.call ⟨.builtin .len, #[x], #[T]⟩) (.int .i64 m) := by
  subst hm; exact Val.len hu hx
theorem Val.sliceCapS {T E z m : Nat} {v : Value} {x hi mx : Operand} (hu : P.underlying T = some (.slice E)) (hz : ∀ w, (sizeOf E).run P w = .ok z w) (hx : ev s x = some v) (hS : Shp v m)
    (hh : ev s hi = some (.int .i64 m)) (hmx : ev s mx = some (.int .i64 m)) : Val P H s (.slice T x none (some hi) (some mx)) (capd v) := by
  rcases hS with ⟨p, rfl, rfl⟩ | ⟨g, off, c, rfl, h⟩
  · intro n a w hs _ o ho
    unfold execOp; rw [ho]; simp only [hs.ev hx, Option.map_some, Option.map_none, hs.ev hh, hs.ev hmx]
    refine run_v ?_
    cases p <;> simp [Addr.add, Instr.sliceAt, Instr.slice, Sem.run_bind, run_underlying hu, Result.andThen, Instr.sliceBounds, Instr.sliceBound, asIntOf, hz, capd]
  · exact Val.sliceHM hu hz hx hh hmx ⟨by omega, by omega, by omega⟩
theorem TL.copyRd {d T E E' b off dl dc : Nat} {x y : Operand} {v : Value} {vs us new : List Value} {ats : Array TypeId} {A : Assn} (hR : Rd A v us) (hu : P.underlying T = some (.slice E)) (hk : ∀ w, (sizeOf E).run P w = .ok 1 w)
    (hx : ev s x = some (.slice (some ⟨b, off, none⟩) dl dc)) (hy : ev s y = some v) (hA : Take L A L1) (hdl : us.length ≤ dl) (hv : us.all isCell = true)
    (hm : Upd L (.row b vs E') (.row b new E') L') (hnew : vs.take off ++ us ++ vs.drop (off + us.length) = new) (hle : off + us.length ≤ vs.length) (ha : ats[0]? = some T) (hn : Nat.blt d n = true)
    (h : TL P n σ R ops Q l ((d, .int .i64 us.length) :: s) L') : TL P n σ R ops Q (⟨some d, .call ⟨.builtin .copy, #[x, y], ats⟩, ty, pos, af, none⟩ :: l) s L := fun a w hs hw => by
  have hmin : Nat.min us.length dl = us.length := Nat.min_eq_left hdl
  rcases hR w (hw.holds hA) with ⟨p, rfl, rfl⟩ | ⟨g, off', c, rfl, _⟩
  · subst hnew
    exact TL.copy (p := p) (m := 0) (c := 0) hu hk hx hy rfl (fun w size _ _ => firstCells_zero) (by simp) hv hm hle ha hn (by simpa using h) a w hs hw
  · subst hnew
    refine TL.copy (us := us) hu hk hx hy rfl (by rw [hmin]; simpa using Rd.cells (P := P) (k := us.length) hA hR (Nat.le_refl _)) (by rw [hmin]) hv hm hle ha hn (by rw [hmin]; exact h) a w hs hw
end
/-! ### bytes -/
abbrev B := BitVec 8
def b8s (l : List B) : List Value := l.map b8
theorem b8s_length {l : List B} : (b8s l).length = l.length := by simp [b8s]
theorem b8s_get {g : List B} {i : Nat} {v : B} (h : g[i]? = some v) : (b8s g)[i]? = some (b8 v) := by simp [b8s, h]
theorem b8s_append {a b : List B} : b8s (a ++ b) = b8s a ++ b8s b := by simp [b8s]
theorem b8s_cells {l : List B} : (b8s l).all isCell = true := by simp [b8s, isCell]
theorem wrap8_of (n : Int) : IntKind.u8.wrap n = n % 256 := IntKind.wrap_u8 n
theorem wrap8_bv (n : Nat) : IntKind.u8.wrap (n : Int) = (BitVec.ofNat 8 n).toNat := by rw [wrap8_of, BitVec.toNat_ofNat]; omega
section
variable {P : Program} {H : List Assn} {s : Slots} {x y : Operand} {T yT S D : Nat}
theorem Val.conv_32_8 {a : BitVec 32} {d : TypeDesc} (hS : P.underlying S = some d) (hD : P.underlying D = some (.int .u8)) (hx : ev s x = some (w32 a)) : Val P H s (.convert S D x) (b8 (a.setWidth 8)) := by
  have := Val.conv (P := P) (H := H) hS hD hx
  rwa [show IntKind.u8.wrap (a.toNat : Int) = ((a.setWidth 8).toNat : Int) from by rw [wrap8_of, BitVec.toNat_setWidth]; omega] at this
theorem Val.conv_8_32 {a : BitVec 8} {d : TypeDesc} (hS : P.underlying S = some d) (hD : P.underlying D = some (.int .u32)) (hx : ev s x = some (b8 a)) : Val P H s (.convert S D x) (w32 (a.setWidth 32)) := by
  have := Val.conv (P := P) (H := H) hS hD hx
  have h := a.isLt
  rwa [show IntKind.u32.wrap (a.toNat : Int) = ((a.setWidth 32).toNat : Int) from by rw [wrap32_of, BitVec.toNat_setWidth]; omega] at this
theorem Val.conv_8_64 {a : BitVec 8} {d : TypeDesc} (hS : P.underlying S = some d) (hD : P.underlying D = some (.int .i64)) (hx : ev s x = some (b8 a)) : Val P H s (.convert S D x) (i64 (a.toNat : Int)) := by
  have := Val.conv (P := P) (H := H) hS hD hx
  have h := a.isLt
  rwa [wrap_i64 (by omega) (by omega)] at this
theorem Val.conv_64_8 {n : Int} {d : TypeDesc} (hS : P.underlying S = some d) (hD : P.underlying D = some (.int .u8)) (hx : ev s x = some (.int .i64 n)) : Val P H s (.convert S D x) (b8 (BitVec.ofInt 8 n)) := by
  have := Val.conv (P := P) (H := H) hS hD hx
  rwa [show IntKind.u8.wrap n = ((BitVec.ofInt 8 n).toNat : Int) from by rw [wrap8_of, BitVec.toNat_ofInt]; omega] at this
theorem Val.conv_u64_u8 {n : Int} {d : TypeDesc} (hS : P.underlying S = some d) (hD : P.underlying D = some (.int .u8)) (hx : ev s x = some (.int .u64 n)) : Val P H s (.convert S D x) (b8 (BitVec.ofInt 8 n)) := by
  have := Val.conv (P := P) (H := H) hS hD hx
  rwa [show IntKind.u8.wrap n = ((BitVec.ofInt 8 n).toNat : Int) from by rw [wrap8_of, BitVec.toNat_ofInt]; omega] at this
theorem Val.conv_u64_32 {n : Int} {d : TypeDesc} (hS : P.underlying S = some d) (hD : P.underlying D = some (.int .u32)) (hx : ev s x = some (.int .u64 n)) : Val P H s (.convert S D x) (w32 (BitVec.ofInt 32 n)) := by
  have := Val.conv (P := P) (H := H) hS hD hx
  rwa [show IntKind.u32.wrap n = ((BitVec.ofInt 32 n).toNat : Int) from by rw [wrap32_of, BitVec.toNat_ofInt]; omega] at this
theorem Val.conv_32_u64 {a : BitVec 32} {d : TypeDesc} (hS : P.underlying S = some d) (hD : P.underlying D = some (.int .u64)) (hx : ev s x = some (w32 a)) : Val P H s (.convert S D x) (.int .u64 (a.toNat : Int)) := by
  have := Val.conv (P := P) (H := H) hS hD hx
  have h := a.isLt
  rwa [wrap_u64 (by omega)] at this
theorem Val.xor8 {a b : BitVec 8} (hx : ev s x = some (b8 a)) (hy : ev s y = some (b8 b)) : Val P H s (.binOp .xor T x y yT) (b8 (a ^^^ b)) :=
  Val.bin hx hy fun w => by
    have h : (Op.intBits .xor .u8 (a.toNat : Int) (b.toNat : Int)).run P w = .ok (b8 (a ^^^ b)) w := by
      simp only [Op.intBits]
      have e1 : BitVec.ofInt IntKind.u8.bits (a.toNat : Int) = a := by
        show BitVec.ofInt 8 (a.toNat : Int) = a
        apply BitVec.eq_of_toNat_eq; rw [BitVec.toNat_ofInt]; have := a.isLt; omega
      have e2 : BitVec.ofInt IntKind.u8.bits (b.toNat : Int) = b := by
        show BitVec.ofInt 8 (b.toNat : Int) = b
        apply BitVec.eq_of_toNat_eq; rw [BitVec.toNat_ofInt]; have := b.isLt; omega
      have : IntKind.u8.wrap ((BitVec.ofInt IntKind.u8.bits (a.toNat : Int) ^^^ BitVec.ofInt IntKind.u8.bits (b.toNat : Int)).toNat : Int) = ((a ^^^ b).toNat : Int) := by
        rw [e1, e2, wrap8_of]; exact Int.emod_eq_of_lt (Int.natCast_nonneg _) (Int.ofNat_lt.2 (show (a ^^^ b).toNat < 256 from (a ^^^ b).isLt))
      exact congrArg (fun v => Result.ok (Value.int .u8 v) w) this
    simp [Sem.run_bind, eqGuard_int, binOp, Result.andThen, h]
theorem Val.conv_n64_u64 {n : Nat} {d : TypeDesc} (hS : P.underlying S = some d) (hD : P.underlying D = some (.int .u64)) (hx : ev s x = some (.int .i64 (n : Int))) (hn : n ≤ 9223372036854775807) : Val P H s (.convert S D x) (.int .u64 (n : Int)) := by
  have := Val.conv_i64_u64 (P := P) (H := H) hS hD hx
  rwa [show (n : Int) % 18446744073709551616 = n by omega] at this
theorem Val.sliceLoN {E b off k c j : Nat} {lo : Operand} {ki : IntKind} (hu : P.underlying T = some (.slice E)) (hz : ∀ w, (sizeOf E).run P w = .ok 1 w) (hx : ev s x = some (.slice (some ⟨b, off, none⟩) k c)) (hl : ev s lo = some (.int ki (j : Int)))
    (hj : j ≤ k) : Val P H s (.slice T x (some lo) none none) (.slice (some ⟨b, if c = j then off else off + j, none⟩) (k - j) (c - j)) := by
  have := Val.sliceLoAny (P := P) (H := H) hu hz hx hl (by omega)
  rwa [Nat.mul_one, Int.toNat_natCast] at this
theorem Val.shrU64 {ky : IntKind} {m k : Nat} (hk : k ≤ 64) (hx : ev s x = some (.int .u64 (m : Int))) (hy : ev s y = some (.int ky (k : Int))) : Val P H s (.binOp .shr T x y yT) (.int .u64 ((m / 2 ^ k : Nat) : Int)) :=
  Val.bin hx hy fun w => by
    have e : (m : Int).fdiv (2 ^ k) = ((m / 2 ^ k : Nat) : Int) := by
      have h0 : (2 : Int) ^ k = ((2 ^ k : Nat) : Int) := by simp
      rw [h0, Int.fdiv_eq_ediv_of_nonneg _ (Int.natCast_nonneg _)]; rfl
    have h1 : min k IntKind.u64.bits = k := Nat.min_eq_left hk
    have h2 : ¬ ((k : Int) < 0) := by omega
    have h3 : (Op.shift .shr .u64 (m : Int) ky (k : Int)).run P w = .ok (.int .u64 ((m / 2 ^ k : Nat) : Int)) w := by
      simp only [Op.shift, if_neg h2, Int.toNat_natCast, h1, e]; rfl
    simp only [eqGuard, binOp, Sem.run_bind]; exact h3
end
end Go.Wd
