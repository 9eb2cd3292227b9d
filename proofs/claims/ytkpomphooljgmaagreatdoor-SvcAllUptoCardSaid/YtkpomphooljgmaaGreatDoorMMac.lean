/- PROVED HERE: the plain law: what the functions compute, with no program in sight. No condition beyond each theorem's own. -/
import Derived.Test.YtkpomphooljgmaaGreatDoorMSha2
namespace Go.Wd
open Go
theorem fillTo_set {α : Type} {l : List α} {z : α} {i : Nat} (h : i < l.length) : (l.take i ++ List.replicate (l.length - i) z).set i l[i] = l.take (i + 1) ++ List.replicate (l.length - (i + 1)) z := by
  have h1 : (l.take i).length = i := by simp; omega
  obtain ⟨k, hk⟩ : ∃ k, l.length - i = k + 1 := ⟨l.length - i - 1, by omega⟩
  rw [hk, List.replicate_succ, List.set_append_right _ _ (by omega), h1, Nat.sub_self, List.set_cons_zero, show l.length - (i + 1) = k by omega, List.take_succ_eq_append_getElem h, List.append_assoc]
  rfl
/-! bytes of words -/
def byteAt (w : W) (k : Nat) : B := (w >>> k).setWidth 8
def bytes4 (w : W) : List B := [byteAt w 24, byteAt w 16, byteAt w 8, byteAt w 0]
def bytesOf (l : List W) : List B := l.flatMap bytes4
theorem bytesOf_len {l : List W} : (bytesOf l).length = 4 * l.length := by
  induction l with
  | nil => rfl
  | cons w l ih => simp [bytesOf, bytes4] at ih ⊢; omega
theorem bytesOf_append {a b : List W} : bytesOf (a ++ b) = bytesOf a ++ bytesOf b := by simp [bytesOf]
theorem bytesOf_take {l : List W} {i : Nat} (h : i < l.length) : bytesOf (l.take (i + 1)) = bytesOf (l.take i) ++ bytes4 (wAt l i) := by
  rw [List.take_succ_eq_append_getElem h, bytesOf_append]; unfold wAt; rw [List.getElem?_eq_getElem h]; simp [bytesOf]
def bAt (l : List B) (i : Nat) : B := (l[i]?).getD 0
theorem bAt_get {l : List B} {i : Nat} (h : i < l.length) : l[i]? = some (bAt l i) := by unfold bAt; rw [List.getElem?_eq_getElem h]; rfl
def w4 (a b c d : B) : W := ((a.setWidth 32 <<< 24 ||| b.setWidth 32 <<< 16) ||| c.setWidth 32 <<< 8) ||| d.setWidth 32 <<< 0
def w4At (l : List B) (i : Nat) : W := w4 (bAt l (4 * i)) (bAt l (4 * i + 1)) (bAt l (4 * i + 2)) (bAt l (4 * i + 3))
def toW (l : List B) : List W := (List.range (l.length / 4)).map (w4At l)
theorem toW_len {l : List B} : (toW l).length = l.length / 4 := by simp [toW]
theorem toW_get {l : List B} {i : Nat} (h : i < (toW l).length) : (toW l)[i] = w4At l i := by simp [toW]
theorem w4_bytes {w : W} : w4 (byteAt w 24) (byteAt w 16) (byteAt w 8) (byteAt w 0) = w := by
  unfold w4 byteAt
  apply BitVec.eq_of_getLsbD_eq
  intro i hi
  simp only [BitVec.getLsbD_or, BitVec.getLsbD_shiftLeft, BitVec.getLsbD_setWidth, BitVec.getLsbD_ushiftRight]
  rcases Nat.lt_or_ge i 8 with h | h
  · have e1 : decide (i < 24) = true := by simp; omega
    have e2 : decide (i < 16) = true := by simp; omega
    have e3 : decide (i < 8) = true := by simp; omega
    simp [e1, e2, e3, h, hi]
  · rcases Nat.lt_or_ge i 16 with h2 | h2
    · have e1 : decide (i < 24) = true := by simp; omega
      have e2 : decide (i < 16) = true := by simp; omega
      have e3 : decide (i < 8) = false := by simp; omega
      have e4 : decide (i - 8 < 8) = true := by simp; omega
      have e5 : 8 + (i - 8) = i := by omega
      have e6 : i - 8 < 32 := by omega
      simp [e1, e2, e3, e4, e5, e6, hi]
    · rcases Nat.lt_or_ge i 24 with h3 | h3
      · have e1 : decide (i < 24) = true := by simp; omega
        have e2 : decide (i < 16) = false := by simp; omega
        have e3 : decide (i < 8) = false := by simp; omega
        have e4 : decide (i - 8 < 8) = false := by simp; omega
        have e5 : 16 + (i - 16) = i := by omega
        have e6 : i - 16 < 8 := by omega
        have e7 : i - 16 < 32 := by omega
        simp [e1, e2, e3, e4, e5, e6, e7, hi]
      · have e1 : decide (i < 24) = false := by simp; omega
        have e2 : decide (i < 16) = false := by simp; omega
        have e3 : decide (i < 8) = false := by simp; omega
        have e4 : decide (i - 8 < 8) = false := by simp; omega
        have e5 : 24 + (i - 24) = i := by omega
        have e6 : i - 24 < 8 := by omega
        have e7 : decide (i - 16 < 8) = false := by simp; omega
        have e8 : i - 24 < 32 := by omega
        simp [e1, e2, e3, e4, e5, e6, e7, e8, hi]
theorem bAt_bytesOf {l : List W} {i k : Nat} (h : i < l.length) (hk : k < 4) : bAt (bytesOf l) (4 * i + k) = bAt (bytes4 (wAt l i)) k := by
  have h1 : l = l.take i ++ [wAt l i] ++ l.drop (i + 1) := by
    unfold wAt; rw [List.getElem?_eq_getElem h]; simp
  have h2 : (bytesOf (l.take i)).length = 4 * i := by rw [bytesOf_len]; simp; omega
  have h3 : bytesOf l = bytesOf (l.take i) ++ bytes4 (wAt l i) ++ bytesOf (l.drop (i + 1)) := by
    have h4 : bytesOf l = bytesOf (l.take i ++ [wAt l i] ++ l.drop (i + 1)) := congrArg bytesOf h1
    rw [h4, bytesOf_append, bytesOf_append]; simp [bytesOf]
  unfold bAt
  rw [h3, List.append_assoc, List.getElem?_append_right (by omega), h2, show 4 * i + k - 4 * i = k by omega, List.getElem?_append_left (by show k < 4; exact hk)]
theorem toW_bytesOf {l : List W} : toW (bytesOf l) = l := by
  apply List.ext_getElem
  · rw [toW_len, bytesOf_len]; omega
  · intro i h1 h2
    have e0 : bAt (bytesOf l) (4 * i) = _ := bAt_bytesOf (k := 0) h2 (by omega)
    rw [toW_get h1, w4At, e0, bAt_bytesOf h2 (by omega), bAt_bytesOf h2 (by omega), bAt_bytesOf h2 (by omega)]
    have : wAt l i = l[i] := by unfold wAt; rw [List.getElem?_eq_getElem h2]; rfl
    rw [this]; exact w4_bytes
/-! the padded key -/
def padB (ks : List B) (p : B) : List B := (ks ++ List.replicate (64 - ks.length) 0).map (· ^^^ p)
theorem padB_len {ks : List B} {p : B} (h : ks.length ≤ 64) : (padB ks p).length = 64 := by simp [padB]; omega
def xorTo (l : List B) (p : B) (i : Nat) : List B := (l.map (· ^^^ p)).take i ++ l.drop i
theorem xorTo_len {l : List B} {p : B} {i : Nat} : (xorTo l p i).length = l.length := by simp [xorTo]; omega
theorem xorTo_at {l : List B} {p : B} {i : Nat} (h : i < l.length) : bAt (xorTo l p i) i = l[i] := by
  unfold bAt xorTo
  rw [List.getElem?_append_right (by simp; omega)]
  simp [Nat.min_eq_left (Nat.le_of_lt h), h]
theorem xorTo_set {l : List B} {p : B} {i : Nat} (h : i < l.length) : (xorTo l p i).set i (bAt (xorTo l p i) i ^^^ p) = xorTo l p (i + 1) := by
  rw [xorTo_at h]
  unfold xorTo
  have h1 : ((l.map (· ^^^ p)).take i).length = i := by simp; omega
  rw [List.set_append_right _ _ (by omega), h1, Nat.sub_self, List.drop_eq_getElem_cons h, List.set_cons_zero, List.take_succ_eq_append_getElem (by simpa using h)]
  simp
theorem xorTo_all {l : List B} {p : B} (h : l.length = 64) : xorTo l p 64 = l.map (· ^^^ p) := by
  unfold xorTo; rw [List.take_of_length_le (by simp; omega), List.drop_eq_nil_of_le (by omega), List.append_nil]
theorem b8s_set {g : List B} {i : Nat} {v : B} : (b8s g).set i (b8 v) = b8s (g.set i v) := by simp [b8s, List.map_set]
theorem b8s_whole {l : List B} {n : Nat} (h : l.length = n) : ((b8s l).drop 0).take n = b8s l := by rw [List.drop_zero, List.take_of_length_le]; rw [b8s_length]; omega
def macD (key : List W) (p : B) : Dig := Dig.new.add (toW (padB (bytesOf key) p))
def tagD (i o : Dig) : S8 := (o.add i.sum.ws).sum
def macW (key msg : List W) : S8 := tagD ((macD key 54#8).add msg) (macD key 92#8)
theorem or_zero {a b : W} : a ||| b = 0 ↔ a = 0 ∧ b = 0 := by
  constructor
  · intro h
    constructor
    · apply BitVec.eq_of_getLsbD_eq; intro i hi; have := congrArg (·.getLsbD i) h; simp at this ⊢; exact this.1
    · apply BitVec.eq_of_getLsbD_eq; intro i hi; have := congrArg (·.getLsbD i) h; simp at this ⊢; exact this.2
  · rintro ⟨rfl, rfl⟩; rfl
theorem xor_zero {a b : W} : a ^^^ b = 0 ↔ a = b := by
  constructor
  · intro h
    apply BitVec.eq_of_getLsbD_eq; intro i hi; have := congrArg (·.getLsbD i) h; simp at this ⊢; exact this
  · rintro rfl; simp
theorem S8.ws_inj {a b : S8} : a.ws = b.ws ↔ a = b := by
  constructor
  · intro h; cases a; cases b; simp at h; simp [h]
  · rintro rfl; rfl
theorem same_step {a b : List W} {i : Nat} {ap : W} (ha : i < a.length) (hb : i < b.length) (h : ap = 0 ↔ a.take i = b.take i) : ap ||| (wAt a i ^^^ wAt b i) = 0 ↔ a.take (i + 1) = b.take (i + 1) := by
  rw [or_zero, xor_zero, h, List.take_succ_eq_append_getElem ha, List.take_succ_eq_append_getElem hb]
  have e1 : wAt a i = a[i] := by unfold wAt; rw [List.getElem?_eq_getElem ha]; rfl
  have e2 : wAt b i = b[i] := by unfold wAt; rw [List.getElem?_eq_getElem hb]; rfl
  rw [e1, e2]
  constructor
  · rintro ⟨h1, h2⟩; rw [h1, h2]
  · intro h
    have := List.append_inj h (by simp; omega)
    exact ⟨this.1, by simpa using this.2⟩
end Go.Wd
