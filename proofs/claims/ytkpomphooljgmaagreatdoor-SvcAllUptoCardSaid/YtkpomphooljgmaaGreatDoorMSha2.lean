/- PROVED HERE: the plain law: what the functions compute, with no program in sight. No condition beyond each theorem's own. -/
import Derived.Test.YtkpomphooljgmaaGreatDoorBase8
namespace Go.Wd
open Go
theorem wl_take {lr : List Value} {off : Nat} {l : List W} (h : (lr.drop off).take (w32s l).length = w32s l) {k : Nat} (hk : k ≤ l.length) : (lr.drop off).take k = w32s (l.take k) := by
  rw [w32s_length] at h
  have h1 := congrArg (List.take k) h
  rw [List.take_take, Nat.min_eq_left hk] at h1
  rw [h1]; simp [w32s, List.map_take]
theorem wl_drop {lr : List Value} {off : Nat} {l : List W} (h : (lr.drop off).take (w32s l).length = w32s l) {k : Nat} (hk : k ≤ l.length) : (lr.drop (off + k)).take (w32s (l.drop k)).length = w32s (l.drop k) := by
  rw [w32s_length] at h ⊢
  have h1 := congrArg (List.drop k) h
  rw [List.drop_take, List.drop_drop] at h1
  rw [List.length_drop, h1]; simp [w32s, List.map_drop]
structure Dig.ok (D : Dig) : Prop where
  n0 : 0 ≤ D.n
  n1 : D.n ≤ 36028797018963968
  ws : D.ws.length < 16
def Dig.new : Dig := ⟨S8.first, 0, []⟩
theorem Dig.new_ok : Dig.new.ok := ⟨by decide, by decide, by decide⟩
def Dig.add (D : Dig) (us : List W) : Dig := if 36028797018963968 - D.n < us.length then D else ⟨(putAll D.st D.ws us).1, D.n + us.length, (putAll D.st D.ws us).2⟩
theorem Dig.add_ok {D : Dig} (h : D.ok) {us : List W} : (D.add us).ok := by
  unfold Dig.add; split
  · exact h
  · exact ⟨by have := h.n0; simp only; omega, by have := h.n1; simp only; omega, putAll_short h.ws⟩
/-- zeros up to fourteen of sixteen -/
def padZ (n : Nat) : Nat := (30 - n % 16) % 16
def hiW (n : Nat) : W := BitVec.ofNat 32 (n / 4294967296)
def loW (n : Nat) : W := BitVec.ofNat 32 n
def padTo (l : List W) (long : Nat) : List W := l ++ List.replicate (padZ l.length) 0 ++ [hiW long, loW long]
theorem padTo_mod {l : List W} {n : Nat} : (padTo l n).length % 16 = 0 := by unfold padTo padZ; simp; omega
def Dig.fin (D : Dig) (last : W) (long : Nat) : S8 := (putAll D.st [] (padTo (D.ws ++ [last]) long)).1
def Dig.sum (D : Dig) : S8 := D.fin 0x80000000#32 (32 * D.n.toNat)
def Dig.save (D : Dig) : List W := D.st.ws ++ [hiW D.n.toNat, loW D.n.toNat] ++ D.ws ++ List.replicate (16 - D.ws.length) 0
theorem Dig.save_len {D : Dig} (h : D.ok) : D.save.length = 26 := by have := h.ws; unfold Dig.save; simp; omega
theorem rep_snoc {k : Nat} : List.replicate k (0 : W) ++ [0] = List.replicate (k + 1) 0 := by rw [List.replicate_succ']
theorem putAll_step {st0 st : S8} {ws us l : List W} (hp : putAll st0 ws us = putAll st [] l) (h : 16 ≤ l.length) : putAll st0 ws us = putAll (st.block (l.take 16)) [] (l.drop 16) := by rw [hp, putAll_chunk h]
theorem padTo_gsl {v : Value} {ws : List W} {last : W} {long : Nat} : GSl 23 1 v (ws.length + 1 + padZ (ws.length + 1) + 2) (w32s (ws ++ [last] ++ List.replicate (padZ (ws.length + 1)) 0) ++ [w32 (BitVec.ofInt 32 ((long / 2 ^ 32 : Nat) : Int)), w32 (BitVec.ofInt 32 (long : Int))]) = GSl 23 1 v (padTo (ws ++ [last]) long).length (w32s (padTo (ws ++ [last]) long)) := by
  have h1 : (padTo (ws ++ [last]) long).length = ws.length + 1 + padZ (ws.length + 1) + 2 := by simp [padTo]; omega
  have h2 : w32s (padTo (ws ++ [last]) long) = w32s (ws ++ [last] ++ List.replicate (padZ (ws.length + 1)) 0) ++ [w32 (BitVec.ofInt 32 ((long / 2 ^ 32 : Nat) : Int)), w32 (BitVec.ofInt 32 (long : Int))] := by
    have h3 : (ws ++ [last]).length = ws.length + 1 := by simp
    rw [padTo, w32s_append, h3, BitVec.ofInt_natCast, BitVec.ofInt_natCast]; rfl
  rw [h1, h2]
theorem save_cells {st : S8} {n : Int} {ws : List W} (h : ws.length < 16) : (w32s (st.ws ++ [hiW n.toNat, loW n.toNat] ++ List.replicate 16 0)).take (0 + (10 : Int).toNat * 1) ++ w32s ws ++ (w32s (st.ws ++ [hiW n.toNat, loW n.toNat] ++ List.replicate 16 0)).drop (0 + (10 : Int).toNat * 1 + (w32s ws).length) = w32s (Dig.save ⟨st, n, ws⟩) := by
  have h1 : (w32s (st.ws ++ [hiW n.toNat, loW n.toNat] ++ List.replicate 16 0)) = w32s (st.ws ++ [hiW n.toNat, loW n.toNat]) ++ w32s (List.replicate 16 0) := w32s_append
  have h2 : (w32s (st.ws ++ [hiW n.toNat, loW n.toNat])).length = 0 + (10 : Int).toNat * 1 := rfl
  rw [h1, ← h2, List.take_left, ← List.drop_drop, List.drop_left, Dig.save, w32s_append, w32s_append, w32s_length]
  congr 1
  rw [w32s, List.map_replicate, List.drop_replicate, w32s, List.map_replicate]
end Go.Wd
