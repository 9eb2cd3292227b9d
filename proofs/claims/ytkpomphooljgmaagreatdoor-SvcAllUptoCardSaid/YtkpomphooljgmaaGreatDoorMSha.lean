/- PROVED HERE: the plain law: what the functions compute, with no program in sight. No condition beyond each theorem's own. -/
import Derived.Test.YtkpomphooljgmaaGreatDoorMDb
import Derived.Test.YtkpomphooljgmaaGreatDoorBase6
namespace Go.Wd
open Go
theorem words_whole {l : List W} {n : Nat} (h : l.length = n) : ((w32s l).drop 0).take n = w32s l := by
  rw [List.drop_zero, List.take_of_length_le]; rw [w32s_length]; omega
theorem wAt_get {l : List W} {i : Nat} (h : i < l.length) : l[i]? = some (wAt l i) := by unfold wAt; rw [List.getElem?_eq_getElem h]; rfl
theorem wAt_set {l : List W} {i k : Nat} {v : W} (h : i ≠ k) : wAt (l.set k v) i = wAt l i := by unfold wAt; rw [List.getElem?_set_ne (fun e => h e.symm)]
theorem set_wAt {l : List W} {i : Nat} (h : i < l.length) : l.set i (wAt l i) = l := set_same (wAt_get h)
theorem wAt_left {a b : List W} {i : Nat} (h : i < a.length) : wAt (a ++ b) i = wAt a i := by unfold wAt; rw [List.getElem?_append_left h]
/-! sha: words, blocks -/
def rotr (x : W) (n : Nat) : W := x >>> n ||| x <<< (32 - n)
def KK : List W := [0x428a2f98, 0x71374491, 0xb5c0fbcf, 0xe9b5dba5, 0x3956c25b, 0x59f111f1, 0x923f82a4, 0xab1c5ed5,
  0xd807aa98, 0x12835b01, 0x243185be, 0x550c7dc3, 0x72be5d74, 0x80deb1fe, 0x9bdc06a7, 0xc19bf174,
  0xe49b69c1, 0xefbe4786, 0x0fc19dc6, 0x240ca1cc, 0x2de92c6f, 0x4a7484aa, 0x5cb0a9dc, 0x76f988da,
  0x983e5152, 0xa831c66d, 0xb00327c8, 0xbf597fc7, 0xc6e00bf3, 0xd5a79147, 0x06ca6351, 0x14292967,
  0x27b70a85, 0x2e1b2138, 0x4d2c6dfc, 0x53380d13, 0x650a7354, 0x766a0abb, 0x81c2c92e, 0x92722c85,
  0xa2bfe8a1, 0xa81a664b, 0xc24b8b70, 0xc76c51a3, 0xd192e819, 0xd6990624, 0xf40e3585, 0x106aa070,
  0x19a4c116, 0x1e376c08, 0x2748774c, 0x34b0bcb5, 0x391c0cb3, 0x4ed8aa4a, 0x5b9cca4f, 0x682e6ff3,
  0x748f82ee, 0x78a5636f, 0x84c87814, 0x8cc70208, 0x90befffa, 0xa4506ceb, 0xbef9a3f7, 0xc67178f2]
theorem KK_len : KK.length = 64 := rfl
/-- the table of the sums lies at the variable g -/
def Tab (A : Assn) (g : Nat) : Prop := ∀ w, Holds A w → ∀ i, i < 64 → w.cell? ⟨g, i, none⟩ = some (w32 (wAt KK i))
/-- the next word of a schedule whose first words are l -/
def schedNext (b l : List W) : W :=
  if l.length < 16 then wAt b l.length
  else wAt l (l.length - 16) + (rotr (wAt l (l.length - 15)) 7 ^^^ rotr (wAt l (l.length - 15)) 18 ^^^ wAt l (l.length - 15) >>> 3) + wAt l (l.length - 7) + (rotr (wAt l (l.length - 2)) 17 ^^^ rotr (wAt l (l.length - 2)) 19 ^^^ wAt l (l.length - 2) >>> 10)
def schedL (b : List W) : Nat → List W
  | 0 => []
  | t + 1 => schedL b t ++ [schedNext b (schedL b t)]
theorem schedL_len {b : List W} {t : Nat} : (schedL b t).length = t := by
  induction t with
  | zero => rfl
  | succ t ih => simp [schedL, ih]
theorem schedL_low {b : List W} {t : Nat} (h : t ≤ 16) (hb : b.length = 16) : schedL b t = b.take t := by
  induction t with
  | zero => rfl
  | succ t ih =>
    rw [schedL, ih (by omega), schedNext, if_pos (by simp; omega), List.take_succ_eq_append_getElem (by omega)]
    have : (b.take t).length = t := by simp; omega
    rw [this]; unfold wAt; rw [List.getElem?_eq_getElem (by omega)]; rfl
def sched (b : List W) : List W := schedL b 64
structure S8 where
  a : W
  b : W
  c : W
  d : W
  e : W
  f : W
  g : W
  h : W
deriving DecidableEq
abbrev S8.ws (s : S8) : List W := [s.a, s.b, s.c, s.d, s.e, s.f, s.g, s.h]
abbrev S8.val (s : S8) : Value := .agg #[w32 s.a, w32 s.b, w32 s.c, w32 s.d, w32 s.e, w32 s.f, w32 s.g, w32 s.h]
def S8.t1 (s : S8) (k w : W) : W := s.h + (rotr s.e 6 ^^^ rotr s.e 11 ^^^ rotr s.e 25) + (s.e &&& s.f ^^^ ~~~s.e &&& s.g) + k + w
def S8.t2 (s : S8) : W := (rotr s.a 2 ^^^ rotr s.a 13 ^^^ rotr s.a 22) + (s.a &&& s.b ^^^ s.a &&& s.c ^^^ s.b &&& s.c)
def S8.round (s : S8) (k w : W) : S8 := ⟨s.t1 k w + s.t2, s.a, s.b, s.c, s.d + s.t1 k w, s.e, s.f, s.g⟩
def S8.rounds (s : S8) (b : List W) : Nat → S8
  | 0 => s
  | t + 1 => (s.rounds b t).round (wAt KK t) (wAt (sched b) t)
def S8.add (s u : S8) : S8 := ⟨s.a + u.a, s.b + u.b, s.c + u.c, s.d + u.d, s.e + u.e, s.f + u.f, s.g + u.g, s.h + u.h⟩
def S8.block (s : S8) (b : List W) : S8 := (s.rounds b 64).add s
def S8.first : S8 := ⟨0x6a09e667, 0xbb67ae85, 0x3c6ef372, 0xa54ff53a, 0x510e527f, 0x9b05688c, 0x1f83d9ab, 0x5be0cd19⟩
/-- the first i of the words have been added -/
def addUp (a b : List W) (i : Nat) : List W := (List.zipWith (· + ·) a b).take i ++ a.drop i
theorem addUp_set {a b : List W} {i : Nat} (h : i < a.length) (h2 : a.length = b.length) : (addUp a b i).set i (wAt (addUp a b i) i + wAt b i) = addUp a b (i + 1) := by
  have hz : ((List.zipWith (· + ·) a b).take i).length = i := by simp; omega
  have h1 : wAt (addUp a b i) i = a[i] := by
    unfold wAt addUp
    rw [List.getElem?_append_right (by omega), hz, Nat.sub_self, List.getElem?_drop, Nat.add_zero, List.getElem?_eq_getElem h]; rfl
  have h3 : wAt b i = b[i] := by unfold wAt; rw [List.getElem?_eq_getElem (by omega)]; rfl
  rw [h1, h3]
  unfold addUp
  rw [List.set_append_right _ _ (by omega), hz, Nat.sub_self, List.drop_eq_getElem_cons h, List.set_cons_zero, List.take_succ_eq_append_getElem (by simp; omega)]
  simp
theorem addUp_len {a b : List W} {i : Nat} (h2 : a.length = b.length) : (addUp a b i).length = a.length := by
  unfold addUp; simp; omega
theorem addUp_all {s u : S8} : addUp s.ws u.ws 8 = (s.add u).ws := rfl
/-- the array while the schedule is made -/
def schedA (b : List W) (t : Nat) : List W := schedL b t ++ List.replicate (64 - t) 0
theorem schedA_len {b : List W} {t : Nat} (h : t ≤ 64) : (schedA b t).length = 64 := by simp [schedA, schedL_len]; omega
theorem schedA_at {b : List W} {t i : Nat} (h : i < t) : wAt (schedA b t) i = wAt (schedL b t) i := wAt_left (by rw [schedL_len]; exact h)
theorem schedA_set {b : List W} {t : Nat} {v : W} (h : t < 64) (hv : v = schedNext b (schedL b t)) : (schedA b t).set t v = schedA b (t + 1) := by
  unfold schedA
  rw [List.set_append_right _ _ (by rw [schedL_len]; exact Nat.le_refl _), schedL_len, Nat.sub_self]
  obtain ⟨k, hk⟩ : ∃ k, 64 - t = k + 1 := ⟨63 - t, by omega⟩
  rw [hk, List.replicate_succ, List.set_cons_zero, show 64 - (t + 1) = k by omega, schedL, hv]
  simp
theorem schedA_16 {b : List W} (hb : b.length = 16) : schedA b 16 = b ++ List.replicate 48 0 := by
  unfold schedA; rw [schedL_low (by omega) hb, List.take_of_length_le (by omega)]
theorem schedA_64 {b : List W} : schedA b 64 = sched b := by simp [schedA, sched]
section
variable {P : Program} {H : List Assn} {s : Slots} {x : Operand} {T : Nat}
/-- a cell that an item is known to hold -/
theorem Val.loadC {b off : Nat} {v : Value} {A : Assn} {H' : List Assn} (ht : ∀ w, (isAgg T).run P w = .ok false w) (hx : ev s x = some (.pointer (some ⟨b, off, none⟩))) (hm : Take H A H') (hc : ∀ w, Holds A w → w.cell? ⟨b, off, none⟩ = some v) : Val P H s (.load T x) v := fun _ a w hs hw o ho => by
  have h1 := hc w (hw.get hm)
  unfold execOp; rw [ho]; simp only [hs.ev hx]
  refine run_v ?_
  simp only [Instr.loadAt, Instr.sureAddr, loadVar, Sem.run_bind, Sem.run_pure, Result.andThen, ht, run_load, h1, Bool.false_eq_true, if_false]
end
end Go.Wd
