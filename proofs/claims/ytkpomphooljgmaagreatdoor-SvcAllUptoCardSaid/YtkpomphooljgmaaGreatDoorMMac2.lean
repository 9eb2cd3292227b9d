/- PROVED HERE: the plain law: what the functions compute, with no program in sight. No condition beyond each theorem's own. -/
import Derived.Test.YtkpomphooljgmaaGreatDoorMMac
namespace Go.Wd
open Go
theorem w4_toNat {a b c d : B} : (w4 a b c d).toNat = ((a.toNat * 256 + b.toNat) * 256 + c.toNat) * 256 + d.toNat := by
  have ha := a.isLt; have hb := b.isLt; have hc := c.isLt; have hd := d.isLt
  have e (x : B) (k : Nat) (hk : k ≤ 24) : (x.setWidth 32 <<< k).toNat = x.toNat * 2 ^ k := by
    have hx := x.isLt
    rw [BitVec.toNat_shiftLeft, BitVec.toNat_setWidth, Nat.shiftLeft_eq]
    have h1 : x.toNat % 2 ^ 32 = x.toNat := Nat.mod_eq_of_lt (by omega)
    rw [h1]
    apply Nat.mod_eq_of_lt
    calc x.toNat * 2 ^ k < 256 * 2 ^ k := Nat.mul_lt_mul_of_pos_right (by omega) (Nat.two_pow_pos k)
      _ ≤ 256 * 2 ^ 24 := Nat.mul_le_mul_left _ (Nat.pow_le_pow_right (by omega) hk)
      _ = 2 ^ 32 := by decide
  unfold w4
  rw [BitVec.toNat_or, BitVec.toNat_or, BitVec.toNat_or, e a 24 (by omega), e b 16 (by omega), e c 8 (by omega), e d 0 (by omega)]
  have h1 : a.toNat * 2 ^ 24 ||| b.toNat * 2 ^ 16 = b.toNat * 2 ^ 16 + a.toNat * 2 ^ 24 := by rw [Nat.or_comm]; exact or_add (i := 24) (by omega) (by omega)
  rw [h1]
  have h2 : (b.toNat * 2 ^ 16 + a.toNat * 2 ^ 24) ||| c.toNat * 2 ^ 8 = c.toNat * 2 ^ 8 + (b.toNat * 2 ^ 16 + a.toNat * 2 ^ 24) := by rw [Nat.or_comm]; exact or_add (i := 16) (by omega) (by omega)
  rw [h2]
  have h3 : (c.toNat * 2 ^ 8 + (b.toNat * 2 ^ 16 + a.toNat * 2 ^ 24)) ||| d.toNat * 2 ^ 0 = d.toNat * 2 ^ 0 + (c.toNat * 2 ^ 8 + (b.toNat * 2 ^ 16 + a.toNat * 2 ^ 24)) := by rw [Nat.or_comm]; exact or_add (i := 8) (by omega) (by omega)
  rw [h3]; omega
/-- a word, byte by byte -/
def hor (l : List B) (o : Nat) : Nat → W
  | 0 => 0
  | k + 1 => hor l o k * 256#32 + (bAt l (o + k)).setWidth 32
theorem hor4 {l : List B} {i : Nat} : hor l (4 * i) 4 = w4At l i := by
  have e : hor l (4 * i) 4 = (((0 * 256#32 + (bAt l (4 * i)).setWidth 32) * 256#32 + (bAt l (4 * i + 1)).setWidth 32) * 256#32 + (bAt l (4 * i + 2)).setWidth 32) * 256#32 + (bAt l (4 * i + 3)).setWidth 32 := rfl
  rw [e, w4At]
  apply BitVec.eq_of_toNat_eq
  rw [w4_toNat]
  have ha := (bAt l (4 * i)).isLt; have hb := (bAt l (4 * i + 1)).isLt; have hc := (bAt l (4 * i + 2)).isLt; have hd := (bAt l (4 * i + 3)).isLt
  simp only [BitVec.toNat_add, BitVec.toNat_mul, BitVec.toNat_setWidth, BitVec.toNat_ofNat]
  omega
theorem bytes4_ref {w : W} : [b8 (BitVec.ofInt 8 ((w.toNat : Int) / ((2 ^ 24 : Nat) : Int))), b8 (BitVec.ofInt 8 ((w.toNat : Int) / ((2 ^ 16 : Nat) : Int) % 256)), b8 (BitVec.ofInt 8 ((w.toNat : Int) / ((2 ^ 8 : Nat) : Int) % 256)), b8 (BitVec.ofInt 8 ((w.toNat : Int) % 256))] = b8s (bytes4 w) := by
  have e (k : Nat) : (byteAt w k).toNat = w.toNat / 2 ^ k % 256 := by
    unfold byteAt; rw [BitVec.toNat_setWidth, BitVec.toNat_ushiftRight, Nat.shiftRight_eq_div_pow]
  have f (x : Int) (k : Nat) (h : x % 256 = ((w.toNat / 2 ^ k % 256 : Nat) : Int)) : BitVec.ofInt 8 x = byteAt w k := by
    apply BitVec.eq_of_toNat_eq; rw [e, BitVec.toNat_ofInt]; omega
  rw [f _ 24 (by omega), f _ 16 (by omega), f _ 8 (by omega), f _ 0 (by omega)]; rfl
theorem bytes4_w4 {a b c d : B} : bytes4 (w4 a b c d) = [a, b, c, d] := by
  have ha := a.isLt; have hb := b.isLt; have hc := c.isLt; have hd := d.isLt
  have e (k : Nat) : (byteAt (w4 a b c d) k).toNat = (w4 a b c d).toNat / 2 ^ k % 256 := by
    unfold byteAt; rw [BitVec.toNat_setWidth, BitVec.toNat_ushiftRight, Nat.shiftRight_eq_div_pow]
  have f (x : B) (k : Nat) (h : x.toNat = (w4 a b c d).toNat / 2 ^ k % 256) : byteAt (w4 a b c d) k = x := by
    apply BitVec.eq_of_toNat_eq; rw [e, h]
  unfold bytes4
  rw [f a 24 (by rw [w4_toNat]; omega), f b 16 (by rw [w4_toNat]; omega), f c 8 (by rw [w4_toNat]; omega), f d 0 (by rw [w4_toNat]; omega)]
theorem bytesOf_toW {l : List B} (h : l.length % 4 = 0) : bytesOf (toW l) = l := by
  apply List.ext_getElem
  · rw [bytesOf_len, toW_len]; omega
  · intro i h1 h2
    have hq : i / 4 < (toW l).length := by rw [toW_len]; omega
    have e1 : bAt (bytesOf (toW l)) (4 * (i / 4) + i % 4) = _ := bAt_bytesOf hq (Nat.mod_lt _ (by omega))
    rw [Nat.div_add_mod] at e1
    have e2 : bAt (bytesOf (toW l)) i = (bytesOf (toW l))[i] := by unfold bAt; rw [List.getElem?_eq_getElem h1]; rfl
    have e3 : bAt l i = l[i] := by unfold bAt; rw [List.getElem?_eq_getElem h2]; rfl
    rw [← e2, ← e3, e1]
    have e4 : wAt (toW l) (i / 4) = w4At l (i / 4) := by unfold wAt; rw [List.getElem?_eq_getElem hq, ← toW_get hq]; rfl
    rw [e4, w4At, bytes4_w4]
    have h4 : i % 4 = 0 ∨ i % 4 = 1 ∨ i % 4 = 2 ∨ i % 4 = 3 := by omega
    rcases h4 with h4 | h4 | h4 | h4 <;> rw [h4]
    · show bAt l (4 * (i / 4)) = _; congr 1; omega
    · show bAt l (4 * (i / 4) + 1) = _; congr 1; omega
    · show bAt l (4 * (i / 4) + 2) = _; congr 1; omega
    · show bAt l (4 * (i / 4) + 3) = _; congr 1; omega
theorem toW_append {a b : List B} (ha : a.length % 4 = 0) (hb : b.length % 4 = 0) : toW (a ++ b) = toW a ++ toW b := by
  conv => lhs; rw [← bytesOf_toW ha, ← bytesOf_toW hb, ← bytesOf_append]
  exact toW_bytesOf
theorem toW_drop {l : List B} {k : Nat} (h : l.length % 4 = 0) (hk : 4 * k ≤ l.length) : toW (l.drop (4 * k)) = (toW l).drop k := by
  have h1 : l = l.take (4 * k) ++ l.drop (4 * k) := (List.take_append_drop _ _).symm
  have h2 : toW l = toW (l.take (4 * k)) ++ toW (l.drop (4 * k)) := by
    conv => lhs; rw [h1]
    exact toW_append (by simp; omega) (by simp; omega)
  have h3 : (toW (l.take (4 * k))).length = k := by rw [toW_len]; simp; omega
  rw [h2]; exact (List.drop_left' h3).symm
/-! the document's padding, byte by byte -/
def be8 (m : Nat) : List B := (List.range 8).map fun j => BitVec.ofNat 8 (m / 2 ^ (8 * (7 - j)))
def zeroes (n : Nat) : Nat := (119 - n % 64) % 64
def padBy (rs : List B) (n : Nat) : List B := rs ++ [128] ++ List.replicate (zeroes rs.length) 0 ++ be8 (n * 8)
theorem be8_len {m : Nat} : (be8 m).length = 8 := rfl
theorem padBy_mod {rs : List B} {n : Nat} : (padBy rs n).length % 64 = 0 := by unfold padBy zeroes; simp [be8_len]; omega
theorem be8_words {m : Nat} : bytes4 (hiW m) ++ bytes4 (loW m) = be8 m := by
  have e (w : W) (k : Nat) : (byteAt w k).toNat = w.toNat / 2 ^ k % 256 := by
    unfold byteAt; rw [BitVec.toNat_setWidth, BitVec.toNat_ushiftRight, Nat.shiftRight_eq_div_pow]
  have f (w : W) (k j : Nat) (h : w.toNat / 2 ^ k % 256 = m / 2 ^ j % 256) : byteAt w k = BitVec.ofNat 8 (m / 2 ^ j) := by
    apply BitVec.eq_of_toNat_eq; rw [e, h, BitVec.toNat_ofNat]
  have h1 : (hiW m).toNat = m / 4294967296 % 4294967296 := by unfold hiW; rw [BitVec.toNat_ofNat]
  have h2 : (loW m).toNat = m % 4294967296 := by unfold loW; rw [BitVec.toNat_ofNat]
  unfold bytes4
  rw [f (hiW m) 24 56 (by rw [h1]; omega), f (hiW m) 16 48 (by rw [h1]; omega), f (hiW m) 8 40 (by rw [h1]; omega), f (hiW m) 0 32 (by rw [h1]; omega),
    f (loW m) 24 24 (by rw [h2]; omega), f (loW m) 16 16 (by rw [h2]; omega), f (loW m) 8 8 (by rw [h2]; omega), f (loW m) 0 0 (by rw [h2]; omega)]
  rfl
theorem bytesOf_rep {n : Nat} : bytesOf (List.replicate n 0) = List.replicate (4 * n) 0 := by
  induction n with
  | zero => rfl
  | succ n ih =>
    rw [List.replicate_succ, show bytesOf (0 :: List.replicate n 0) = bytes4 0 ++ bytesOf (List.replicate n 0) from rfl, ih, show bytes4 0 = List.replicate 4 0 from by decide, List.replicate_append_replicate]
    congr 1; omega
theorem padBy_words {ws : List W} : padBy (bytesOf ws) (4 * ws.length) = bytesOf (padTo (ws ++ [0x80000000#32]) (32 * ws.length)) := by
  have h1 : (ws ++ [0x80000000#32]).length = ws.length + 1 := by simp
  rw [padTo, h1, bytesOf_append, bytesOf_append, bytesOf_append, padBy, bytesOf_rep, show bytesOf [hiW (32 * ws.length), loW (32 * ws.length)] = bytes4 (hiW (32 * ws.length)) ++ bytes4 (loW (32 * ws.length)) from by simp [bytesOf], be8_words,
    show bytesOf [0x80000000#32] = [128] ++ List.replicate 3 0 from by decide, show 4 * ws.length * 8 = 32 * ws.length by omega]
  have h2 : zeroes (bytesOf ws).length = 3 + 4 * padZ (ws.length + 1) := by rw [bytesOf_len]; unfold zeroes padZ; omega
  rw [h2, ← List.replicate_append_replicate]
  simp [List.append_assoc]
def sumB (bs : List B) : S8 := (putAll S8.first [] (toW (padBy bs bs.length))).1
theorem putAll_mod {st : S8} {ws l : List W} (h : ws.length < 16) : (putAll st ws l).2.length % 16 = (ws.length + l.length) % 16 := by
  induction l generalizing st ws with
  | nil => rfl
  | cons w l ih =>
    rw [putAll, ih (put_short h)]
    unfold Dig.put
    split
    · rename_i h1; simp at h1 ⊢; omega
    · simp; omega
theorem sum_words {ws : List W} (h : ws.length ≤ 1099511627776) : sumB (bytesOf ws) = (Dig.new.add ws).sum := by
  have e1 : Dig.new.add ws = ⟨(putAll S8.first [] ws).1, 0 + (ws.length : Int), (putAll S8.first [] ws).2⟩ := by
    unfold Dig.add Dig.new; rw [if_neg (by dsimp only; omega)]
  have hm := putAll_mod (st := S8.first) (ws := []) (l := ws) (by decide)
  have hs := putAll_short (st := S8.first) (ws := []) (l := ws) (by decide)
  rw [e1, sumB, bytesOf_len, padBy_words, toW_bytesOf]
  unfold Dig.sum Dig.fin
  dsimp only
  obtain ⟨q, hq⟩ : ∃ q, putAll S8.first [] ws = q := ⟨_, rfl⟩
  rw [hq] at hm hs ⊢
  have e2 : (0 + (ws.length : Int)).toNat = ws.length := by omega
  have e3 : padZ (ws ++ [0x80000000#32]).length = padZ (q.2 ++ [0x80000000#32]).length := by
    unfold padZ; simp at hm ⊢; omega
  have e4 : padTo (ws ++ [0x80000000#32]) (32 * ws.length) = ws ++ ([0x80000000#32] ++ List.replicate (padZ (q.2 ++ [0x80000000#32]).length) 0 ++ [hiW (32 * ws.length), loW (32 * ws.length)]) := by
    unfold padTo; rw [e3]; simp [List.append_assoc]
  rw [e2, e4, putAll_append, hq, putAll_nil hs]
  unfold padTo
  simp [List.append_assoc]
theorem Dig.add_add {a b : List W} (h : a.length + b.length ≤ 1099511627776) : (Dig.new.add a).add b = Dig.new.add (a ++ b) := by
  have e : ∀ (st : S8) (n : Int) (ws l : List W), n + l.length ≤ 36028797018963968 → Dig.add ⟨st, n, ws⟩ l = ⟨(putAll st ws l).1, n + l.length, (putAll st ws l).2⟩ := fun st n ws l h => by
    unfold Dig.add; rw [if_neg (by dsimp only; omega)]
  have hn : Dig.new = ⟨S8.first, 0, []⟩ := rfl
  rw [hn, e _ _ _ a (by omega), e _ _ _ b (by omega), e _ _ _ (a ++ b) (by rw [List.length_append]; omega), putAll_append, List.length_append]
  congr 1
  omega
def tagB (ks ms : List B) : S8 := sumB (padB ks 92#8 ++ bytesOf (sumB (padB ks 54#8 ++ ms)).ws)
theorem tag_words {us ms : List W} (hu : us.length ≤ 16) (hm : ms.length ≤ 549755813888) : tagB (bytesOf us) (bytesOf ms) = macW us ms := by
  have hk : ∀ p, (padB (bytesOf us) p).length = 64 := fun p => padB_len (by rw [bytesOf_len]; omega)
  have hw : ∀ p, (toW (padB (bytesOf us) p)).length = 16 := fun p => by rw [toW_len, hk]
  have e : ∀ (p : B) (l : List W), l.length ≤ 549755813888 → sumB (padB (bytesOf us) p ++ bytesOf l) = ((macD us p).add l).sum := fun p l hl => by
    have h1 : padB (bytesOf us) p ++ bytesOf l = bytesOf (toW (padB (bytesOf us) p) ++ l) := by rw [bytesOf_append, bytesOf_toW (by rw [hk])]
    rw [h1, sum_words (by rw [List.length_append, hw]; omega), macD, Dig.add_add (by rw [hw]; omega)]
  unfold tagB
  rw [e _ ms hm, e _ _ (by show 8 ≤ _; decide)]
  rfl
theorem padB_at {ks : List B} {p : B} {i : Nat} (h : i < 64) : bAt (padB ks p) i = (if i < ks.length then bAt ks i else 0) ^^^ p := by
  have e : ∀ x : B, ((some x).map (· ^^^ p)).getD 0 = x ^^^ p := fun _ => rfl
  unfold bAt padB
  rw [List.getElem?_map]
  by_cases hi : i < ks.length
  · rw [List.getElem?_append_left hi, if_pos hi, List.getElem?_eq_getElem hi]; rfl
  · rw [List.getElem?_append_right (by omega), if_neg hi, List.getElem?_replicate, if_pos (by omega)]; rfl
/-! a slice's rest -/
theorem Rd.drop {A : Assn} {g off n c j : Nat} {us : List Value} (hR : Rd A (.slice (some ⟨g, off, none⟩) n c) us) (hj : j ≤ us.length) : Rd A (.slice (some ⟨g, if c = j then off else off + j, none⟩) (n - j) (c - j)) (us.drop j) := fun w hw => by
  rcases hR w hw with ⟨p, h, h0⟩ | ⟨g', off', c', he, hc, hcell⟩
  · cases h; subst h0; exact .inl ⟨_, by rw [Nat.zero_sub], List.drop_nil⟩
  · simp only [Value.slice.injEq, Option.some.injEq, Addr.mk.injEq, and_true] at he
    obtain ⟨⟨rfl, rfl⟩, rfl, rfl⟩ := he
    refine .inr ⟨g, _, c - j, by rw [List.length_drop], by rw [List.length_drop]; omega, fun i u hi => ?_⟩
    by_cases h : c = j
    · have : us.drop j = [] := List.drop_eq_nil_of_le (by omega)
      rw [this] at hi; simp at hi
    · rw [if_neg h, Nat.add_assoc]
      rw [List.getElem?_drop] at hi
      exact hcell _ _ hi
theorem b8s_drop {l : List B} {j : Nat} : (b8s l).drop j = b8s (l.drop j) := by simp [b8s, List.map_drop]
theorem b8s_take {l : List B} {j : Nat} : (b8s l).take j = b8s (l.take j) := by simp [b8s, List.map_take]
theorem take_snoc {l : List B} {i : Nat} (h : i < l.length) : l.take i ++ [bAt l i] = l.take (i + 1) := by
  rw [List.take_succ_eq_append_getElem h]; unfold bAt; rw [List.getElem?_eq_getElem h]; rfl
theorem sum_parts {bs : List B} {k : Nat} {st : S8} (hk : 64 * k ≤ bs.length) (hp : putAll S8.first [] (toW (bs.take (64 * k))) = (st, [])) : sumB bs = (putAll st [] (toW (padBy (bs.drop (64 * k)) bs.length))).1 := by
  have h1 : padBy bs bs.length = bs.take (64 * k) ++ padBy (bs.drop (64 * k)) bs.length := by
    unfold padBy
    have : zeroes bs.length = zeroes (bs.drop (64 * k)).length := by unfold zeroes; rw [List.length_drop]; omega
    have key : ∀ (a b Z E : List B), (a ++ b) ++ [128] ++ Z ++ E = a ++ (b ++ [128] ++ Z ++ E) := by intros; simp
    have := key (bs.take (64 * k)) (bs.drop (64 * k)) (List.replicate (zeroes (bs.drop (64 * k)).length) 0) (be8 (bs.length * 8))
    rw [List.take_append_drop] at this
    rw [‹zeroes bs.length = _›]; exact this
  have h2 : (bs.take (64 * k)).length % 4 = 0 := by rw [List.length_take]; omega
  have h3 : (padBy (bs.drop (64 * k)) bs.length).length % 4 = 0 := by have := @padBy_mod (bs.drop (64 * k)) bs.length; omega
  rw [sumB, h1, toW_append h2 h3, putAll_append, hp]
theorem toW_take {l : List B} {k : Nat} (hk : 64 * k + 64 ≤ l.length) : toW (l.take (64 * (k + 1))) = toW (l.take (64 * k)) ++ (toW ((l.drop (64 * k)).take 64)) := by
  have h1 : l.take (64 * (k + 1)) = l.take (64 * k) ++ (l.drop (64 * k)).take 64 := by
    rw [show 64 * (k + 1) = 64 * k + 64 by omega, List.take_add]
  rw [h1]
  exact toW_append (by simp; omega) (by simp; omega)
/-- a block out of bytes -/
def blkAt (l : List B) (o : Nat) : List W := toW ((l.drop o).take 64)
theorem blkAt_len {l : List B} {o : Nat} (h : o + 64 ≤ l.length) : (blkAt l o).length = 16 := by unfold blkAt; rw [toW_len]; simp; omega
theorem blkAt_get {l : List B} {o i : Nat} (h : o + 64 ≤ l.length) (hi : i < 16) (hi2 : i < (blkAt l o).length) : (blkAt l o)[i] = hor l (o + 4 * i) 4 := by
  have e : ∀ k, k < 4 → bAt ((l.drop o).take 64) (4 * i + k) = bAt l (o + 4 * i + k) := fun k hk => by
    unfold bAt; rw [List.getElem?_take, if_pos (by omega), List.getElem?_drop]; congr 2
    omega
  have h2 : (blkAt l o)[i] = w4At ((l.drop o).take 64) i := toW_get _
  rw [h2, ← hor4]
  have f : ∀ k, k ≤ 4 → hor ((l.drop o).take 64) (4 * i) k = hor l (o + 4 * i) k := fun k hk => by
    induction k with
    | zero => rfl
    | succ k ih => rw [hor, hor, ih (by omega), e k (by omega)]
  exact f 4 (by omega)
theorem st_get {st : S8} {i : Nat} {x : W} {r : List Value} (h : st.ws[i]? = some x) : ([w32 st.a, w32 st.b, w32 st.c, w32 st.d, w32 st.e, w32 st.f, w32 st.g, w32 st.h] ++ r)[i]? = some (w32 x) := by
  have h2 : i < st.ws.length := (List.getElem?_eq_some_iff.1 h).1
  rw [List.getElem?_append_left (by exact h2)]
  exact w32s_get (g := st.ws) h
theorem fill26 {st : S8} {i : Nat} (h : i < 8) : (st.ws.take i ++ List.replicate (26 - i) 0).set i (wAt st.ws i) = st.ws.take (i + 1) ++ List.replicate (26 - (i + 1)) 0 := by
  have h1 : (st.ws.take i).length = i := by simp; omega
  obtain ⟨k, hk⟩ : ∃ k, 26 - i = k + 1 := ⟨25 - i, by omega⟩
  rw [hk, List.replicate_succ, List.set_append_right _ _ (by omega), h1, Nat.sub_self, List.set_cons_zero, show 26 - (i + 1) = k by omega, List.take_succ_eq_append_getElem h, List.append_assoc]
  unfold wAt; rw [List.getElem?_eq_getElem h]; rfl
theorem fill16 {st : S8} {a b : W} {ws : List W} {i : Nat} (h : i < ws.length) (hw : ws.length < 16) : (st.ws ++ [a, b] ++ ws.take i ++ List.replicate (16 - i) 0).set (10 + i) (wAt ws i) = st.ws ++ [a, b] ++ ws.take (i + 1) ++ List.replicate (16 - (i + 1)) 0 := by
  have h1 : (st.ws ++ [a, b] ++ ws.take i).length = 10 + i := by simp; omega
  obtain ⟨k, hk⟩ : ∃ k, 16 - i = k + 1 := ⟨15 - i, by omega⟩
  rw [hk, List.replicate_succ, List.set_append_right _ _ (by omega), h1, Nat.sub_self, List.set_cons_zero, show 16 - (i + 1) = k by omega, List.take_succ_eq_append_getElem h]
  have : wAt ws i = ws[i] := by unfold wAt; rw [List.getElem?_eq_getElem h]; rfl
  rw [this, ← List.append_assoc, List.append_assoc _ [ws[i]]]; rfl
theorem be8_step {m j : Nat} (h : j < 8) : (be8 m).take j ++ [BitVec.ofNat 8 (m / 2 ^ (8 * (7 - j)))] = (be8 m).take (j + 1) := by
  rw [← take_snoc (by rw [be8_len]; exact h)]
  congr 1
  unfold bAt be8
  rw [List.getElem?_map, List.getElem?_range h]; rfl
theorem blk_step {st : S8} {pb : List B} {k : Nat} {q : S8 × List W} (hp : q = putAll st [] (toW (pb.drop (64 * k)))) (hk : 64 * k + 64 ≤ pb.length) (hm : pb.length % 4 = 0) : q = putAll (st.block (blkAt pb (64 * k))) [] (toW (pb.drop (64 * (k + 1)))) := by
  rw [hp]
  have h1 : pb.drop (64 * k) = (pb.drop (64 * k)).take 64 ++ pb.drop (64 * (k + 1)) := by
    rw [show 64 * (k + 1) = 64 * k + 64 by omega, ← List.drop_drop, List.take_append_drop]
  conv => lhs; rw [h1]
  rw [toW_append (by simp; omega) (by simp; omega), putAll_append]
  have h2 := blkAt_len (l := pb) (o := 64 * k) hk
  have h3 : putAll st [] (blkAt pb (64 * k)) = (st.block (blkAt pb (64 * k)), []) := putAll_block (by simpa using h2) (by intro h; rw [h] at h2; simp at h2)
  show putAll (putAll st [] (blkAt pb (64 * k))).1 (putAll st [] (blkAt pb (64 * k))).2 _ = _
  rw [h3]
end Go.Wd
