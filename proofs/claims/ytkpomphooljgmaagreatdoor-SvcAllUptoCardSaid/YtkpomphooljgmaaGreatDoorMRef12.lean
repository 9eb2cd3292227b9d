/- PROVED HERE: the plain law: what the functions compute, with no program in sight. No condition beyond each theorem's own. -/
import Derived.Test.YtkpomphooljgmaaGreatDoorMRef07
namespace Go.Wd
open Go
/-! the document's entries: records of five cells -/
def ecells (es : List Ety) : List Value := es.flatMap (·.cells)
theorem ecells_len {es : List Ety} : (ecells es).length = 5 * es.length := by
  induction es with
  | nil => rfl
  | cons e es ih => simp [ecells] at ih ⊢; omega
theorem ecells_append {a b : List Ety} : ecells (a ++ b) = ecells a ++ ecells b := by simp [ecells]
theorem ecells_at {es : List Ety} {k : Nat} {e : Ety} (h : es[k]? = some e) : ecells es = ecells (es.take k) ++ e.cells ++ ecells (es.drop (k + 1)) ∧ (ecells (es.take k)).length = 5 * k := by
  obtain ⟨h1, h2⟩ := List.getElem?_eq_some_iff.1 h
  have h3 : es = es.take k ++ [e] ++ es.drop (k + 1) := by
    rw [← h2]; simp
  constructor
  · have h4 : ecells es = ecells (es.take k ++ [e] ++ es.drop (k + 1)) := congrArg ecells h3
    rw [h4, ecells_append, ecells_append]; congr 1
  · rw [ecells_len, List.length_take]; omega
theorem ecells_get {es : List Ety} {k : Nat} {e : Ety} {j : List Value} (h : es[k]? = some e) : ((ecells es ++ j).drop (0 + k * 5)).take 5 = e.cells := by
  obtain ⟨h1, h2⟩ := ecells_at h
  rw [h1, show 0 + k * 5 = (ecells (es.take k)).length by omega]
  simp [List.append_assoc]
theorem ecells_field {es : List Ety} {k f : Nat} {e : Ety} {j : List Value} {v : Value} (h : es[k]? = some e) (hf : e.cells[f]? = some v) : (ecells es ++ j)[0 + k * 5 + f]? = some v := by
  obtain ⟨h1, h2⟩ := ecells_at h
  have hf5 : f < 5 := (List.getElem?_eq_some_iff.1 hf).1
  rw [h1, List.append_assoc, List.append_assoc, List.getElem?_append_right (by omega), show 0 + k * 5 + f - (ecells (es.take k)).length = f by omega, List.getElem?_append_left (by simpa using hf5)]
  exact hf
theorem ecells_put {es : List Ety} {k : Nat} {e' : Ety} {j : List Value} (h : k < es.length) : (ecells es ++ j).take (0 + k * 5) ++ e'.cells ++ (ecells es ++ j).drop (0 + k * 5 + 5) = ecells (es.set k e') ++ j := by
  obtain ⟨h1, h2⟩ := ecells_at (List.getElem?_eq_getElem h)
  have h3 : (ecells es ++ j).drop (0 + k * 5 + 5) = ecells (es.drop (k + 1)) ++ j := by
    rw [h1, show 0 + k * 5 + 5 = (ecells (es.take k) ++ es[k].cells).length by simp; omega, List.append_assoc, List.drop_left]
  have h4 : (ecells es ++ j).take (0 + k * 5) = ecells (es.take k) := by
    rw [h1, show 0 + k * 5 = (ecells (es.take k)).length by omega, List.append_assoc, List.append_assoc, List.take_left]
  rw [h3, h4, List.set_eq_take_append_cons_drop, if_pos h, show es.take k ++ e' :: es.drop (k + 1) = es.take k ++ [e'] ++ es.drop (k + 1) by simp, ecells_append, ecells_append]
  simp [ecells]
theorem ecells_set {es : List Ety} {k f : Nat} {e e' : Ety} {j : List Value} {v : Value} (h : es[k]? = some e) (hf : f < 5) (he : e'.cells = e.cells.set f v) : (ecells es ++ j).set (0 + k * 5 + f) v = ecells (es.set k e') ++ j := by
  obtain ⟨h1, h2⟩ := ecells_at h
  have hk := (List.getElem?_eq_some_iff.1 h).1
  rw [← ecells_put hk, he]
  have h3 : (ecells es ++ j).drop (0 + k * 5 + 5) = ecells (es.drop (k + 1)) ++ j := by
    rw [h1, show 0 + k * 5 + 5 = (ecells (es.take k) ++ e.cells).length by simp; omega, List.append_assoc, List.drop_left]
  have h4 : (ecells es ++ j).take (0 + k * 5) = ecells (es.take k) := by
    rw [h1, show 0 + k * 5 = (ecells (es.take k)).length by omega, List.append_assoc, List.append_assoc, List.take_left]
  rw [h3, h4, h1]
  simp only [List.append_assoc]
  rw [List.set_append_right _ _ (by omega), show 0 + k * 5 + f - (ecells (es.take k)).length = f by omega, List.set_append_left _ _ (by simpa using hf)]
theorem ecells_rep {n : Nat} : (List.replicate n Ety.free).flatMap (·.cells) = ecells (List.replicate n Ety.free) := rfl
theorem Db.takeSpace_swap {es : List Ety} {a b : Int} {e f : Ety} (h : a ≠ b) (ha : 0 ≤ a) (hb : 0 ≤ b) : setE (setE es b f) a e = setE (setE es a e) b f := by
  unfold setE; exact (List.set_comm _ _ (by omega))
theorem encs_take_succ {es : List Ety} {i : Nat} {e : Ety} (h : es[i]? = some e) : encs (es.take i) ++ [e.e0, e.e1] = encs (es.take (i + 1)) := by
  obtain ⟨h1, h2⟩ := List.getElem?_eq_some_iff.1 h
  rw [List.take_succ_eq_append_getElem h1, encs_append, h2]; rfl
theorem ecells_snoc {es : List Ety} {e : Ety} : ecells es ++ e.cells = ecells (es ++ [e]) := by rw [ecells_append]; simp [ecells]
theorem hasE_nat {es : List Ety} {i : Nat} (h : i < es.length) : hasE es (i : Int) := ⟨by omega, by omega⟩
theorem words_at {ws : List W} {jw : List Value} {i : Nat} (h : i < ws.length) : (w32s ws ++ jw)[i]? = some (w32 (wAt ws i)) := by
  rw [List.getElem?_append_left (by rw [w32s_length]; exact h)]
  exact w32s_get (by unfold wAt; rw [List.getElem?_eq_getElem h]; rfl)
theorem own_pos {a b : W} : 0 ≤ (Ety.dec a b).1.own := by
  unfold Ety.dec Ety.split Ety.free; split <;> simp <;> omega
theorem loadE_take {ws : List W} {p : Nat} : ecells ((List.range p).map fun q => (decAt ws q).1) ++ (decAt ws p).1.cells = ecells ((List.range (p + 1)).map fun q => (decAt ws q).1) := by
  rw [ecells_snoc, List.range_succ, List.map_append]; rfl
end Go.Wd
