/- PROVED HERE: rules of assertions with a footprint, and of the model's operations over them. No condition beyond each theorem's own. -/
import Derived.Test.YtkpomphooljgmaaGreatDoorMSpace
namespace Go.Wd
open Go
/-! elements of slices whose shape alone is known -/
def elemP (v : Value) (i : Nat) : Value := match v with
  | .slice (some ⟨g, off, none⟩) _ _ => .pointer (some ⟨g, off + i, none⟩)
  | _ => .pointer none
section
variable {P : Program} {H : List Assn} {s : Slots}
theorem Val.ixS {x i : Operand} {T E n : Nat} {v : Value} {ki : IntKind} {j : Int} (ht : P.underlying T = some (.slice E)) (hz : ∀ w, (sizeOf E).run P w = .ok 1 w) (hS : Shp v n)
    (hx : ev s x = some v) (hi : ev s i = some (.int ki j)) (hj : 0 ≤ j ∧ j < n) : Val P H s (.indexAddr T x i) (elemP v j.toNat) := by
  rcases hS with ⟨_, rfl, rfl⟩ | ⟨g, off, c, rfl, h⟩
  · exfalso; omega
  · exact Val.ixSlice1 ht hz hx hi hj
theorem Val.loadE {x : Operand} {T i : Nat} {v u : Value} {us : List Value} {A : Assn} {H' : List Assn} (ht : ∀ w, (isAgg T).run P w = .ok false w) (hx : ev s x = some (elemP v i)) (hm : Take H A H') (hR : Rd A v us) (hc : us[i]? = some u) : Val P H s (.load T x) u := fun n a w hs hw o ho => by
  rcases hR w (hw.get hm) with ⟨_, h, rfl⟩ | ⟨g, off, c, rfl, _, h3⟩
  · simp at hc
  · exact Val.loadRd (g := g) (off := off) (i := i) ht hx hm hR hc rfl n a w hs hw o ho
end
section
variable {P : Program} {n : Nat} {σ : Env} {R : Assn} {Q : Exit → Act → World → Prop} {s : Slots} {L L' : List Assn} {c : Code}
theorem TC.shpI {A : Assn} {φ : Prop} {v : Value} {us : List Value} (hR : φ → Rd A v us) (ht : Take L A L') (h : (φ → Shp v us.length) → TC P n σ R c Q s L) : TC P n σ R c Q s L := fun a w ha hw => h (fun hp => (hR hp).shp (hw.holds ht)) a w ha hw
end
/-- slices of slices of words, as they are read -/
structure Rd2 (A : Assn) (v : Value) (us : List Value) (S : List (List W)) : Prop where
  out : Rd A v us
  len : us.length = S.length
  ins : ∀ (i : Nat) (u : Value) (s : List W), us[i]? = some u → S[i]? = some s → Rd A u (w32s s)
def drawM (S : List (List W)) (b t : Int) : W := if 0 ≤ b ∧ 0 ≤ t then ((S[b.toNat]?).bind (·[t.toNat]?)).getD 0#32 else 0#32
theorem Rd2.at {A : Assn} {v : Value} {us : List Value} {S : List (List W)} (h : Rd2 A v us S) (b : Int) : ∃ (u : Value) (s : List W), (0 ≤ b ∧ b < us.length) → us[b.toNat]? = some u ∧ S[b.toNat]? = some s ∧ Rd A u (w32s s) := by
  by_cases hb : 0 ≤ b ∧ b < us.length
  · have h1 : b.toNat < us.length := by omega
    have h2 : b.toNat < S.length := by rw [← h.len]; exact h1
    refine ⟨us[b.toNat], S[b.toNat], fun _ => ⟨List.getElem?_eq_getElem h1, List.getElem?_eq_getElem h2, ?_⟩⟩
    exact h.ins _ _ _ (List.getElem?_eq_getElem h1) (List.getElem?_eq_getElem h2)
  · exact ⟨.nilFunc, [], fun c => absurd c hb⟩
theorem drawM_out {S : List (List W)} {b t : Int} (h : b < 0 ∨ (S.length : Int) ≤ b) : drawM S b t = 0#32 := by
  unfold drawM; split
  · rw [List.getElem?_eq_none (by omega)]; rfl
  · rfl
theorem drawM_in {S : List (List W)} {b t : Int} {s : List W} (hb : 0 ≤ b) (hs : S[b.toNat]? = some s) (ht : t < 0 ∨ (s.length : Int) ≤ t) : drawM S b t = 0#32 := by
  unfold drawM; split
  · rw [hs]; show (s[t.toNat]?).getD 0#32 = _; rw [List.getElem?_eq_none (by omega)]; rfl
  · rfl
theorem drawM_at {S : List (List W)} {b t : Int} {s : List W} (hb : 0 ≤ b) (hs : S[b.toNat]? = some s) (ht : 0 ≤ t) : drawM S b t = wAt s t.toNat := by
  unfold drawM; rw [if_pos ⟨hb, ht⟩, hs]; rfl
theorem draw_none {A : Assn} {v u : Value} {us : List Value} {S : List (List W)} {s : List W} {b t : Int} (hR : Rd2 A v us S) (hus : (0 ≤ b ∧ b < us.length) → us[b.toNat]? = some u ∧ S[b.toNat]? = some s ∧ Rd A u (w32s s)) (h : ((b < 0 ∨ (us.length : Int) ≤ b) ∨ t < 0) ∨ (s.length : Int) ≤ t) : drawM S b t = 0#32 := by
  have hl := hR.len
  by_cases hb : 0 ≤ b ∧ b < us.length
  · exact drawM_in hb.1 (hus hb).2.1 (by omega)
  · exact drawM_out (by omega)
/-! ### maps whose keys are words -/
def mapEnts : Nat → List (W × Value) → List MapEntry
  | _, [] => []
  | i, (k, v) :: r => ⟨w32 k, v, i⟩ :: mapEnts (i + 1) r
def MapA (r : Nat) (es : List (W × Value)) : Assn := .blk r (.map (mapEnts 0 es).toArray es.length)
def findW (k : W) : List (W × Value) → Nat → Option (Nat × Value)
  | [], _ => none
  | (k', v) :: r, j => if k = k' then some (j, v) else findW k r (j + 1)
theorem findNow_ents {k : W} : ∀ (es : List (W × Value)) (i j : Nat), Instr.findNow (.int .u32) (w32 k) (mapEnts i es) j = some (findW k es j)
  | [], _, _ => rfl
  | (k', v) :: r, i, j => by
    simp only [mapEnts, Instr.findNow, Instr.sameNow, if_true, findW]
    by_cases h : k = k'
    · subst h; simp
    · have h2 : ((k.toNat : Int) == (k'.toNat : Int)) = false := by
        rw [beq_eq_false_iff_ne]; intro c; apply h; apply BitVec.eq_of_toNat_eq; omega
      rw [h2, if_neg h]; exact findNow_ents r (i + 1) (j + 1)
theorem mapEnts_push {k : W} {v : Value} : ∀ (es : List (W × Value)) (i : Nat), mapEnts i (es ++ [(k, v)]) = mapEnts i es ++ [⟨w32 k, v, i + es.length⟩]
  | [], i => rfl
  | (k', v') :: r, i => by simp only [List.cons_append, mapEnts, mapEnts_push r (i + 1), List.length_cons, show i + 1 + r.length = i + (r.length + 1) by omega]
theorem getObj_run {P : Program} {r k : Nat} {es : Array MapEntry} {w : World} (h : w.heap[r]? = some (.map es k)) : (getObj r).run P w = .ok (.map es k) w := by
  simp [getObj, Sem.run, h]
theorem checkKey_run {P : Program} {e : Bool} {n t : Nat} {v : Value} {k : IntKind} {w : World} (h : P.underlying t = some (.int k)) : (Instr.checkKey e (n + 1) t v).run P w = .ok () w := by
  simp [Instr.checkKey, Sem.run_bind, run_underlying h, Result.andThen]
theorem findKey_run {P : Program} {t : Nat} {k : W} {es : List (W × Value)} {w : World} (h : P.underlying t = some (.int .u32)) : (Instr.findKey t (w32 k) (mapEnts 0 es)).run P w = .ok (findW k es 0) w := by
  simp [Instr.findKey, Sem.run_bind, run_underlying h, Result.andThen, findNow_ents]
section
variable {P : Program} {H : List Assn} {s : Slots}
theorem Val.lookupW {T K E r : Nat} {x y : Operand} {k : W} {es : List (W × Value)} {z : Value} {H' : List Assn} (ht : P.underlying T = some (.map K E)) (hK : P.underlying K = some (.int .u32)) (hz : ∀ w, (zeroValue E).run P w = .ok z w)
    (hx : ev s x = some (.map (some r))) (hy : ev s y = some (w32 k)) (hm : Take H (MapA r es) H') :
    Val P H s (.lookup T x y true) (.tuple #[((findW k es 0).map (·.2)).getD z, .bool (findW k es 0).isSome]) := fun n a w hs hw o ho => by
  have hb : w.heap[r]? = _ := Holds.blk (hw.get hm)
  unfold execOp; rw [ho]; simp only [hs.ev hx, hs.ev hy]
  refine run_v ?_
  simp only [Instr.lookup, Sem.run_bind, run_underlying ht, Result.andThen, getObj_run hb, Sem.run_pure, checkKey_run hK, findKey_run hK]
  cases findW k es 0 with
  | none => simp [hz, Sem.run_bind, Result.andThen]
  | some p => simp
end
section
variable {P : Program} {n : Nat} {σ : Env} {R : Assn} {Q : Exit → Act → World → Prop} {s : Slots} {L L' : List Assn} {ops : Array Oper} {l : List Oper} {ty : Nat} {pos : String} {af : Array Edge}
theorem TL.makeMap {d T : Nat} (hn : Nat.blt d n = true) (h : ∀ b, TL P n σ R ops Q l ((d, .map (some b)) :: s) (MapA b [] :: L)) : TL P n σ R ops Q (⟨some d, .makeMap T none, ty, pos, af, none⟩ :: l) s L :=
  TL.effNew (v := fun b => .map (some b)) (L' := fun b => MapA b [] :: L) hn (fun a w hs hw o ho => by
    refine ⟨w.heap.size, { w with heap := w.heap.push (.map #[] 0) }, ?_, hw.alloc _⟩
    unfold execOp; rw [ho]; simp only [Option.map_none]
    refine run_v ?_
    simp [Instr.makeMap, newObj, Sem.run_bind, Result.andThen, Sem.run]) h
theorem TL.insertW {T K E r : Nat} {x y z : Operand} {k : W} {v : Value} {es : List (W × Value)} (ht : P.underlying T = some (.map K E)) (hK : P.underlying K = some (.int .u32)) (hx : ev s x = some (.map (some r))) (hy : ev s y = some (w32 k)) (hz : ev s z = some v)
    (hm : Upd L (MapA r es) (MapA r (es ++ [(k, v)])) L') (hnew : findW k es 0 = none) (h : TL P n σ R ops Q l s L') : TL P n σ R ops Q (⟨none, .insert T x y z, ty, pos, af, none⟩ :: l) s L :=
  TL.effSkip (fun a w hs hw o ho => by
    obtain ⟨M, hm1, hm2⟩ := hm.takes
    have hb : w.heap[r]? = _ := Holds.blk (hw.holds hm1)
    have hr : r < w.heap.size := (Array.getElem?_eq_some_iff.1 hb).1
    refine ⟨{ w with heap := w.heap.set! r (.map ((mapEnts 0 es).toArray.push ⟨w32 k, v, es.length⟩) (es.length + 1)) }, ?_, ?_⟩
    · unfold execOp; rw [ho]; simp only [hs.ev hx, hs.ev hy, hs.ev hz]
      simp [Instr.mapUpdate, Sem.run_bind, run_underlying ht, Result.andThen, getObj_run hb, checkKey_run hK, findKey_run hK, hnew, setObj, Sem.run, hb]
    · refine Own.back hm2 (hw.turn hm1 (fun h => h) ?_ ?_)
      · have e : (mapEnts 0 (es ++ [(k, v)])).toArray = (mapEnts 0 es).toArray.push ⟨w32 k, v, es.length⟩ := by rw [mapEnts_push]; simp
        have e2 : (es ++ [(k, v)]).length = es.length + 1 := by simp
        rw [e, e2]; simp [Array.getElem?_setIfInBounds, hr]
      · intro x hx; simp [Array.getElem?_setIfInBounds, Ne.symm hx]) h
end
end Go.Wd
