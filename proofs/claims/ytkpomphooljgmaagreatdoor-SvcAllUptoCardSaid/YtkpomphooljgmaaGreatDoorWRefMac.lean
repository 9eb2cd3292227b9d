/- PROVED HERE: contracts of functions of the program, walked: each returns what the plain model says, for all items that its precondition names. No condition beyond each theorem's own. -/
import Derived.Test.YtkpomphooljgmaaGreatDoorProg
import Derived.Test.YtkpomphooljgmaaGreatDoorModel
import Derived.Test.YtkpomphooljgmaaGreatDoorPk
import Derived.Test.YtkpomphooljgmaaGreatDoorMMac2
import Derived.Test.YtkpomphooljgmaaGreatDoorWRef02
namespace Go.Wd
open Go Go.Proofs Go.Proofs.Tryz
set_option maxHeartbeats 400000 in
theorem S_wardenref01_two {n : Nat} (hn : n ≤ 61) : Spec prog 177 [i64 (n : Int)].toArray [] (fun _ : Unit => True) (fun _ => i64 ((2 ^ n : Nat) : Int)) (fun _ => []) := by
 refine Spec.body func177 rfl ntmps177 rfl (fun σ R => ?_)
 refine .seq (.region (.v (.assign rfl) (.nil (TQ.then (.seq (.region (.v (.assign rfl) (.nil (TQ.then (.seq (.seq (.region (.v (.assign rfl) (.nil (TQ.then (.block (.loop (X := {i : Nat // i ≤ n}) (s0 := [(0, _)]) (fun x => [(3, i64 ((2 ^ x.1 : Nat) : Int)), (4, i64 x.1)]) (fun x => []) (fun x => n - x.1) ⟨0, Nat.zero_le _⟩ .st .pk (fun x => ?_))))))))))))))))))
 refine .seq (.seq (.region (.v (.move rfl) (.v (.move rfl) (.v (.lss rfl rfl) (.nil (TQ.then ?_)))))))
 first | refine .cond_dec rfl (fun h1 => ?_) (fun h1 => ?_) | refine .cond rfl (fun h1 => ?_) (fun h1 => ?_)
 ·
  obtain ⟨i, hi⟩ := x
  dsimp only at hi h1 ⊢
  have hp : 2 ^ i ≤ 2 ^ 61 := Nat.pow_le_pow_right (by omega) (by omega)
  obtain ⟨p, hp2⟩ : ∃ p, 2 ^ i = p := ⟨_, rfl⟩
  rw [hp2] at hp ⊢
  refine .skip (TQ.then (.seq (.block (.region (.v (.move rfl) ?_)))))
  refine .v (show Val _ _ _ _ (i64 ((2 ^ (i + 1) : Nat) : Int)) from by rw [show ((2 ^ (i + 1) : Nat) : Int) = 2 * (p : Int) by rw [Nat.pow_succ, hp2]; omega]; exact Val.mul64 rfl rfl (by omega)) ?_
  refine .v (.assign rfl) (.nil (.blk_normal (TQ.then (.region (.v (.move rfl) (.v (.add64 rfl rfl (by omega)) ?_))))))
  refine .v (.assign rfl) (.nil ?_)
  exact .next ⟨i + 1, by omega⟩ (by dsimp only; omega) .st .en
 ·
  obtain ⟨i, hi⟩ := x
  dsimp only at hi h1 ⊢
  obtain rfl : i = n := by omega
  refine .exit (.then_exit (.then_exit (.blk_hit (TQ.then (.seq (.region (.v (.move rfl) (.v (.assign rfl) (.nil (TQ.then (.ret ?_)))))))))))
  exact .ret results177 (.tmp rfl .nil) () (by first | rfl | simp [tup, *]) trivial .en

set_option maxHeartbeats 400000 in
theorem S_wardenref01_Bytes {us : List W} {u : Value} {A : Assn} (hR : Rd A u (w32s us)) (hu : us.length ≤ 1099511627776) : Spec prog 167 [u].toArray [A] (fun x : Value => isCell x = true) (fun x => x) (fun x => [GSl 5 1 x (4 * us.length) (b8s (bytesOf us)), A]) := by
 refine Spec.body func167 rfl ntmps167 rfl (fun σ R => ?_)
 refine .seq (.region (.v (.assign rfl) (.nil (TQ.then (.seq (.shpR hR .tk (fun hSu => ?_)))))))
 rw [w32s_length] at hSu
 refine .ent (GSl.emp (E := 5) (k := 1)) ?_
 refine .region (.v (.assign rfl) (.nil (TQ.then (.seq (.seq (.region (.v (.assign rfl) (.nil (TQ.then (.block (.loop (X := {x : Nat × Value // x.1 ≤ us.length ∧ isCell x.2 = true}) (s0 := [(0, _)]) (fun x => [(3, x.1.2), (4, i64 x.1.1)]) (fun x => [GSl 5 1 x.1.2 (4 * x.1.1) (b8s (bytesOf (us.take x.1.1)))]) (fun x => us.length - x.1.1) ⟨(0, .slice none 0 0), Nat.zero_le _, rfl⟩ .st .pk (fun x => ?_))))))))))))
 refine .seq (.seq (.region (.v (.move rfl) (.v (.move rfl) (.v (.lenS underlying31 rfl hSu) ?_)))))
 refine .v (.lss rfl rfl) (.nil (TQ.then ?_))
 first | refine .cond_dec rfl (fun h1 => ?_) (fun h1 => ?_) | refine .cond rfl (fun h1 => ?_) (fun h1 => ?_)
 ·
  obtain ⟨⟨i, v1⟩, hi, hv1⟩ := x
  dsimp only at hi hv1 h1 ⊢
  have hlt : i < us.length := by omega
  refine .openRd (v := u) .tk hR (fun hv3 hv4 => ?_) (fun g off cp hv3 hcp => ?_)
  ·
   exfalso; have h0 : us.length = 0 := by have h := congrArg List.length hv4; rwa [w32s_length] at h
   omega
  subst hv3
  rw [w32s_length] at hcp
  have hwl := (wAt us i).isLt
  refine .skip (TQ.then (.seq (.block (.seq (.region (.v (.move rfl) (.v (.move rfl) (.v (.ixSlice1 underlying31 sizeOf23 rfl rfl (by rw [w32s_length]; omega)) ?_))))))))
  refine .v (.loadRd (i := i) isAgg23 rfl .tk hR (w32s_get (wAt_get hlt)) (by omega)) ?_
  refine .v (.conv_32_64 underlying23 underlying3 rfl) ?_
  refine .v (.assign rfl) (.nil (TQ.then (.draw (H := []) (.q 0 (.q 1 (.q 5 (.q 10 (.q 15 (.q 16 (.q 17 (.e 2 (.q 3 (.q 4 (.e 6 (.q 7 (.q 8 (.q 9 (.e 11 (.q 12 (.q 13 (.q 14 (.e 18 (.e 19 (.q 20 .done))))))))))))))))))))) (by kernel_rfl) .pk (by kernel_rfl) (by kernel_rfl) (by kernel_rfl) ?_)))
  refine .v rfl (.move rfl) (.v rfl (.move rfl) (.v rfl (.move rfl) (.v rfl (.move rfl) (.v rfl (.move rfl) (.v rfl (.rem64 rfl rfl (by omega)) ?_)))))
  refine .v rfl (.conv_64_8 underlying3 underlying5 rfl) ?_
  refine .eff rfl (fun fu_ li_ hk_ hs_ hl_ => ?_)
  refine .call call177 (S_wardenref01_two (n := 24) (by decide)) rfl .pk rfl (fun x19 hx19 => ?_)
  refine .nil (TS.back hk_ hs_ hl_ .pk ?_)
  refine .v rfl (.quo64 (b := ((2 ^ 24 : Nat) : Int)) rfl rfl (by omega)) ?_
  refine .v rfl (.conv_64_8 underlying3 underlying5 rfl) ?_
  refine .eff rfl (fun fu_ li_ hk_ hs_ hl_ => ?_)
  refine .call call177 (S_wardenref01_two (n := 16) (by decide)) rfl .pk rfl (fun x23 hx23 => ?_)
  refine .nil (TS.back hk_ hs_ hl_ .pk ?_)
  refine .v rfl (.quo64 (b := ((2 ^ 16 : Nat) : Int)) rfl rfl (by omega)) ?_
  refine .v rfl (.rem64 rfl rfl (by omega)) ?_
  refine .v rfl (.conv_64_8 underlying3 underlying5 rfl) ?_
  refine .eff rfl (fun fu_ li_ hk_ hs_ hl_ => ?_)
  refine .call call177 (S_wardenref01_two (n := 8) (by decide)) rfl .pk rfl (fun x28 hx28 => ?_)
  refine .nil (TS.back hk_ hs_ hl_ .pk ?_)
  refine .v rfl (.quo64 (b := ((2 ^ 8 : Nat) : Int)) rfl rfl (by omega)) ?_
  refine .v rfl (.rem64 rfl rfl (by omega)) ?_
  refine .v rfl (.conv_64_8 underlying3 underlying5 rfl) ?_
  refine .eff rfl (fun fu_ li_ hk_ hs_ hl_ => ?_)
  refine .buildSlice (zs := [.int .u8 0, .int .u8 0, .int .u8 0, .int .u8 0]) (cs := [_, _, _, _]) underlying251 sizeOf5 zeroValue5 rfl rfl rfl (by kernel_rfl) rfl rfl (fun b35 => ?_)
  refine .nil (TS.back hk_ hs_ hl_ .pk ?_)
  refine .eff rfl (fun fu_ li_ hk_ hs_ hl_ => ?_)
  refine .appendR (A := .row b35 [_, _, _, _] 5) (us := b8s (bytes4 (wAt us i))) (Rd.row (off := 0) (n := 4) (l := [_, _, _, _]) rfl (bytes4_ref (w := wAt us i)) (Nat.le_refl _)) underlying251 typeInfo5 rfl rfl rfl rfl rfl rfl .tk .tk rfl (by simp only [t5]; rw [b8s_length]; show (4 * i + 4) * _ ≤ _; omega) rfl (fun v36 hv36 => ?_)
  refine .nil (TS.back hk_ hs_ hl_ .pk ?_)
  refine .v rfl (.assign rfl) (.done (.blk_normal (TQ.then (.region (.v (.move rfl) (.v (.add64 rfl rfl (by omega)) ?_))))))
  refine .v (.assign rfl) (.nil ?_)
  rw [show GSl 5 1 v36 (4 * i + (b8s (bytes4 (wAt us i))).length) (b8s (bytesOf (us.take i)) ++ b8s (bytes4 (wAt us i))) = GSl 5 1 v36 (4 * (i + 1)) (b8s (bytesOf (us.take (i + 1)))) from by rw [bytesOf_take hlt, b8s_append, b8s_length]; rfl]
  exact .next ⟨(i + 1, v36), by dsimp only; omega, hv36⟩ (by dsimp only; omega) .st .en
 ·
  obtain ⟨⟨i, v1⟩, hi, hv1⟩ := x
  dsimp only at hi hv1 h1 ⊢
  obtain rfl : i = us.length := by omega
  rw [List.take_of_length_le (Nat.le_refl _)]
  refine .exit (.then_exit (.then_exit (.blk_hit (TQ.then (.seq (.region (.v (.move rfl) (.v (.assign rfl) (.nil (TQ.then (.ret ?_)))))))))))
  exact .ret results167 (.tmp rfl .nil) v1 (by first | rfl | simp [tup, *]) hv1 .en

set_option maxHeartbeats 1000000 in
theorem S_wardenref02_blockAt {bs : List B} {o : Nat} {u : Value} {A : Assn} (hR : Rd A u (b8s bs)) (hu : bs.length ≤ 140737488355328) (ho : o + 64 ≤ bs.length) : Spec prog 187 [u, i64 (o : Int)].toArray [A] (fun _ : Unit => True) (fun _ => .agg (w32s (blkAt bs o)).toArray) (fun _ => [A]) := by
 refine Spec.body func187 rfl ntmps187 rfl (fun σ R => ?_)
 refine .seq (.region (.alloc (zs := w32s (List.replicate 16 0)) zeroValue170 (by kernel_rfl) rfl (fun b4 => ?_)))
 refine .nil (TQ.then (.seq (.region (.alloc (zs := w32s (List.replicate 16 0)) zeroValue170 (by kernel_rfl) rfl (fun b5 => ?_)))))
 refine .nil (TQ.then (.seq (.seq ?_)))
 have hbl := blkAt_len ho
 rw [show w32s (List.replicate 16 0) = w32s ((blkAt bs o).take 0 ++ List.replicate ((blkAt bs o).length - 0) 0) from by rw [hbl]; rfl]
 refine .openRd (v := u) .tk hR (fun hv3 hv4 => ?_) (fun g off cp hv3 hcp => ?_)
 ·
  exfalso; have h0 : bs.length = 0 := by have h := congrArg List.length hv4; rwa [b8s_length] at h
  omega
 subst hv3
 rw [b8s_length] at hcp
 refine .region (.v (.assign rfl) (.nil (TQ.then (.block (.loop (X := {i : Nat // i ≤ 16}) (s0 := [(0, _), (1, _), (4, _), (5, _)]) (fun x => [(6, i64 x.1)]) (fun x => [.row b5 (w32s ((blkAt bs o).take x.1 ++ List.replicate ((blkAt bs o).length - x.1) 0)) 170]) (fun x => 16 - x.1) ⟨0, by decide⟩ .st .pk (fun x => ?_))))))
 refine .seq (.seq (.region (.v (.move rfl) (.v (.lss rfl rfl) (.nil (TQ.then ?_))))))
 first | refine .cond_dec rfl (fun h1 => ?_) (fun h1 => ?_) | refine .cond rfl (fun h1 => ?_) (fun h1 => ?_)
 ·
  obtain ⟨i, hi⟩ := x
  dsimp only at hi h1 ⊢
  have hlt : i < 16 := by omega
  obtain ⟨l0, hl0⟩ : ∃ l0, (blkAt bs o).take i ++ List.replicate ((blkAt bs o).length - i) 0 = l0 := ⟨_, rfl⟩
  have hl0n : l0.length = 16 := by rw [← hl0, List.length_append, List.length_replicate, List.length_take]; omega
  have hl00 : wAt l0 i = 0 := by rw [← hl0]; unfold wAt; rw [List.getElem?_append_right (by simp; omega), List.getElem?_replicate, if_pos (by simp; omega)]; rfl
  rw [hl0]
  refine .skip (TQ.then (.seq (.block (.seq (.region (.v (.assign rfl) (.nil (TQ.then (.block ?_)))))))))
  refine .loop (X := {k : Nat // k ≤ 4}) (s0 := [(0, _), (1, _), (4, _), (5, _), (6, _)]) (fun y => [(7, i64 y.1)]) (fun y => [.row b5 (w32s (l0.set i (hor bs (o + 4 * i) y.1))) 170]) (fun y => 4 - y.1) ⟨0, by decide⟩ .st (by rw [show l0 = l0.set i (hor bs (o + 4 * i) 0) from by rw [show hor bs (o + 4 * i) 0 = wAt l0 i from hl00.symm, set_wAt (by omega)]]; rw [List.set_set]; exact .pk) (fun y => ?_)
  refine .seq (.seq (.region (.v (.move rfl) (.v (.lss rfl rfl) (.nil (TQ.then ?_))))))
  first | refine .cond_dec rfl (fun h2 => ?_) (fun h2 => ?_) | refine .cond rfl (fun h2 => ?_) (fun h2 => ?_)
  ·
   obtain ⟨k, hk⟩ := y
   dsimp only at hk h2 ⊢
   have hlk : k < 4 := by omega
   refine .skip (TQ.then (.seq (.block (.draw (H := [A]) (.q 0 (.q 1 (.q 2 (.q 5 (.q 6 (.q 7 (.q 8 (.q 9 (.q 10 (.q 11 (.q 12 (.q 13 (.q 14 (.e 3 (.q 4 (.q 15 (.q 16 (.e 17 .done)))))))))))))))))) (by kernel_rfl) .pk (by kernel_rfl) (by kernel_rfl) (by kernel_rfl) ?_))))
   refine .v rfl (.move rfl) (.v rfl (.move rfl) (.v rfl (.ixArr1 underlying170 sizeOf23 rfl rfl (by omega)) ?_))
   refine .v rfl (.move rfl) (.v rfl (.move rfl) (.v rfl (.move rfl) (.v rfl (.mul64 rfl rfl (by omega)) ?_)))
   refine .v rfl (.add64 rfl rfl (by omega)) ?_
   refine .v rfl (.move rfl) (.v rfl (.add64 rfl rfl (by omega)) ?_)
   refine .v rfl (.ixSlice1 underlying251 sizeOf5 rfl rfl (by rw [b8s_length]; omega)) ?_
   refine .v rfl (.loadRd (i := o + 4 * i + k) isAgg5 rfl .tk hR (b8s_get (bAt_get (by omega))) (by omega)) ?_
   refine .v rfl (.conv_8_32 underlying5 underlying23 rfl) ?_
   refine .eff rfl (fun fu_ li_ hk_ hs_ hl_ => ?_)
   refine .v (.load isAgg23 rfl .tk (w32s_get (v := hor bs (o + 4 * i) k) (by rw [show 0 + ((i : Nat) : Int).toNat = i by omega, List.getElem?_set_self (by omega)]))) ?_
   refine .nil (TS.back hk_ hs_ hl_ .pk ?_)
   refine .v rfl (.mul32 (b := 256#32) rfl rfl) (.v rfl (.add32 rfl rfl) (.v rfl (.ixArr1 underlying170 sizeOf23 rfl rfl (by omega)) ?_))
   refine .eff rfl (fun fu_ li_ hk_ hs_ hl_ => ?_)
   refine .storeTo (new := w32s (l0.set i (hor bs (o + 4 * i) (k + 1)))) sizeOf23 rfl rfl rfl .up (by rw [show 0 + ((i : Nat) : Int).toNat = i by omega, show l0.set i (hor bs (o + 4 * i) (k + 1)) = (l0.set i (hor bs (o + 4 * i) k)).set i (hor bs (o + 4 * i) (k + 1)) from (List.set_set ..).symm]; exact w32s_set) (by rw [w32s_length, List.length_set]; omega) ?_
   refine .nil (TS.back hk_ hs_ hl_ .pk ?_)
   refine .done (.blk_normal (TQ.then (.region (.v (.move rfl) (.v (.add64 rfl rfl (by omega)) ?_)))))
   refine .v (.assign rfl) (.nil ?_)
   exact .next ⟨k + 1, by omega⟩ (by dsimp only; omega) .st .en
  ·
   obtain ⟨k, hk⟩ := y
   dsimp only at hk h2 ⊢
   obtain rfl : k = 4 := by omega
   rw [← hl0, ← blkAt_get ho hlt (by omega), fillTo_set (by omega)]
   refine .exit (.then_exit (.then_exit (.blk_hit (.blk_normal (TQ.then (.region (.v (.move rfl) (.v (.add64 rfl rfl (by omega)) ?_))))))))
   refine .v (.assign rfl) (.nil ?_)
   exact .next ⟨i + 1, by omega⟩ (by dsimp only; omega) .st .en
 ·
  obtain ⟨i, hi⟩ := x
  dsimp only at hi h1 ⊢
  obtain rfl : i = 16 := by omega
  rw [show (blkAt bs o).take 16 ++ List.replicate ((blkAt bs o).length - 16) 0 = blkAt bs o from by rw [hbl, List.take_of_length_le (by omega), Nat.sub_self]; simp]
  refine .exit (.then_exit (.then_exit (.blk_hit (TQ.then (.seq (.region (.v (.loadAgg (vs := w32s (blkAt bs o)) isAgg170 sizeOf170 rfl .tk (words_whole hbl) (w32s_length.trans hbl)) ?_)))))))
  refine .storeAll (us := w32s (blkAt bs o)) (vs := w32s ((blkAt bs o).take 0 ++ List.replicate ((blkAt bs o).length - 0) 0)) sizeOf170 rfl rfl w32s_cells (w32s_length.trans hbl) .up (by rw [w32s_length, List.take_zero, List.nil_append, List.length_replicate, hbl]) ?_
  refine .nil (TQ.then (.ret ?_))
  exact .ret results187 (.agg (us := w32s (blkAt bs o)) isAgg170 sizeOf170 rfl .tk (words_whole hbl) (w32s_length.trans hbl) .nil) () rfl trivial .en

set_option maxHeartbeats 2000000 in
theorem S_wardenref02_ended {AK1 : Assn} {s : S8} {rs : List B} {m : Nat} {u : Value} {A : Assn} (hR : Rd A u (b8s rs)) (hu : rs.length ≤ 1099511627776) (hm : m ≤ 1152921504606846976) (hK1 : Tab AK1 1 := by assumption) : Spec prog 188 [s.val, u, .int .u64 (m : Int)].toArray [AK1, A] (fun _ : Unit => True) (fun _ => (putAll s [] (toW (padBy rs m))).1.val) (fun _ => [AK1, A]) := by
 refine Spec.body func188 rfl ntmps188 rfl (fun σ R => ?_)
 refine .seq (.region (.box (vs := [_, _, _, _, _, _, _, _]) rfl rfl rfl (fun b3 => ?_)))
 refine .alloc zeroValue24 rfl rfl (fun b6 => ?_)
 refine .nil (TQ.then (.seq (.shpR hR .tk (fun hSu => ?_))))
 rw [b8s_length] at hSu
 refine .ent (GSl.emp (E := 5) (k := 1)) ?_
 refine .region (.v (.assign rfl) (.nil (TQ.then (.seq (.region (.v (.move rfl) (.v (.move rfl) (.appendR (v := .slice none 0 0) (A := A) (us := b8s rs) hR underlying251 typeInfo5 rfl rfl rfl rfl rfl rfl .tk .tk b8s_cells (by simp only [t5]; rw [b8s_length]; omega) rfl (fun v12 hv12 => ?_)))))))))
 rw [show GSl 5 1 v12 (0 + (b8s rs).length) ([] ++ b8s rs) = GSl 5 1 v12 rs.length (b8s rs) from by rw [Nat.zero_add, List.nil_append, b8s_length]]
 refine .v (.assign rfl) (.nil (TQ.then (.seq ?_)))
 obtain ⟨zl, hzl⟩ : ∃ zl, zeroes rs.length = zl := ⟨_, rfl⟩
 have hzl2 := hzl
 unfold zeroes at hzl2
 have hlk : zl ≤ 63 := by omega
 refine .region (.v (.move rfl) (.buildSlice (zs := [.int .u8 0]) (cs := [_]) underlying251 sizeOf5 zeroValue5 rfl rfl rfl (by kernel_rfl) rfl rfl (fun b14 => ?_)))
 refine .appendR (A := .row b14 [_] 5) (us := [b8 (128#8)]) (Rd.row (off := 0) (n := 1) (l := [_]) rfl rfl (Nat.le_refl _)) underlying251 typeInfo5 rfl rfl rfl rfl rfl rfl .tk .tk rfl (by simp only [t5, List.length_cons, List.length_nil]; omega) rfl (fun v15 hv15 => ?_)
 refine .v (.assign rfl) (.nil (TQ.then (.seq (.block ?_))))
 refine .loop (X := {x : Nat × Value // x.1 ≤ zl ∧ isCell x.2 = true}) (s0 := [(2, _), (3, _), (6, _)]) (fun x => [(7, x.1.2)]) (fun x => [GSl 5 1 x.1.2 (rs.length + 1 + x.1.1) (b8s (rs ++ [128] ++ List.replicate x.1.1 0))]) (fun x => zl - x.1.1) ⟨(0, v15), Nat.zero_le _, hv15⟩ .st (by rw [show b8s (rs ++ [128] ++ List.replicate 0 0) = b8s rs ++ [b8 128#8] from by simp [b8s]]; exact .pk) (fun x => ?_)
 refine .seq (.seq (.region (.v (.move rfl) (.v (.lenG underlying251 rfl .tk) ?_))))
 refine .v (.rem64 rfl rfl (by omega)) ?_
 refine .v (.neq rfl rfl) (.nil (TQ.then ?_))
 first | refine .cond_dec rfl (fun h1 => ?_) (fun h1 => ?_) | refine .cond rfl (fun h1 => ?_) (fun h1 => ?_)
 ·
  obtain ⟨⟨k, v1⟩, hk, hv1⟩ := x
  dsimp only at hk hv1 h1 ⊢
  refine .skip (TQ.then (.block (.region (.v (.move rfl) (.buildSlice (zs := [.int .u8 0]) (cs := [_]) underlying251 sizeOf5 zeroValue5 rfl rfl rfl (by kernel_rfl) rfl rfl (fun b21 => ?_))))))
  refine .appendR (A := .row b21 [_] 5) (us := [b8 (0#8)]) (Rd.row (off := 0) (n := 1) (l := [_]) rfl rfl (Nat.le_refl _)) underlying251 typeInfo5 rfl rfl rfl rfl rfl rfl .tk .tk rfl (by simp only [t5, List.length_cons, List.length_nil]; omega) rfl (fun v22 hv22 => ?_)
  refine .v (.assign rfl) (.nil (.blk_normal ?_))
  rw [show GSl 5 1 v22 (rs.length + 1 + k + [b8 0#8].length) (b8s (rs ++ [128] ++ List.replicate k 0) ++ [b8 0#8]) = GSl 5 1 v22 (rs.length + 1 + (k + 1)) (b8s (rs ++ [128] ++ List.replicate (k + 1) 0)) from by rw [List.replicate_succ', ← List.append_assoc, b8s_append (a := rs ++ [128] ++ List.replicate k 0)]; rfl]
  exact .next ⟨(k + 1, v22), by dsimp only; omega, hv22⟩ (by dsimp only; omega) .st .en
 ·
  obtain ⟨⟨k, v1⟩, hk, hv1⟩ := x
  dsimp only at hk hv1 h1 ⊢
  obtain rfl : zl = k := by omega
  have hpm := @padBy_mod rs m
  obtain ⟨b0, hb0⟩ : ∃ b0, rs ++ [128] ++ List.replicate zl 0 = b0 := ⟨_, rfl⟩
  have hb0l : b0.length = rs.length + 1 + zl := by rw [← hb0]; simp; omega
  have hpe : padBy rs m = b0 ++ be8 (m * 8) := by rw [padBy, hzl, hb0]
  rw [hb0]
  refine .exit (.then_exit (.then_exit (.blk_hit (TQ.then (.seq (.seq (.region (.v (.assign rfl) (.nil (TQ.then (.block ?_)))))))))))
  refine .loop (X := {x : Nat × Value // x.1 ≤ 8 ∧ isCell x.2 = true}) (s0 := [(2, _), (3, _), (6, _)]) (fun x => [(7, x.1.2), (8, i64 (7 - (x.1.1 : Int)))]) (fun x => [GSl 5 1 x.1.2 (rs.length + 1 + zl + x.1.1) (b8s (b0 ++ (be8 (m * 8)).take x.1.1))]) (fun x => 8 - x.1.1) ⟨(0, v1), Nat.zero_le _, hv1⟩ .st (by rw [show b8s (b0 ++ (be8 (m * 8)).take 0) = b8s b0 from by rw [List.take_zero, List.append_nil]]; exact .pk) (fun x => ?_)
  refine .seq (.seq (.region (.v (.move rfl) (.v (.geq rfl rfl) (.nil (TQ.then ?_))))))
  first | refine .cond_dec rfl (fun h2 => ?_) (fun h2 => ?_) | refine .cond rfl (fun h2 => ?_) (fun h2 => ?_)
  ·
   obtain ⟨⟨j, v2⟩, hj, hv2⟩ := x
   dsimp only at hj hv2 h2 ⊢
   have hlj : j < 8 := by omega
   refine .skip (TQ.then (.seq (.block (.region (.v (.move rfl) (.v (.move rfl) ?_))))))
   refine .v (show Val _ _ _ _ (.int .u64 ((m * 8 : Nat) : Int)) from by rw [show ((m * 8 : Nat) : Int) = (m : Int) * 8 by omega]; exact Val.mulU64 rfl rfl (by omega)) ?_
   refine .v (.move rfl) (.v (.mul64 rfl rfl (by omega)) ?_)
   refine .v (show Val _ _ _ _ (.int .u64 ((8 * (7 - j) : Nat) : Int)) from by rw [show ((8 * (7 - j) : Nat) : Int) = (8 * (7 - (j : Int))) % 18446744073709551616 by omega]; exact Val.conv_i64_u64 underlying3 underlying172 rfl) ?_
   refine .v (.shrU64 (m := m * 8) (k := 8 * (7 - j)) (by omega) rfl rfl) ?_
   refine .v (.conv_u64_u8 underlying171 underlying5 rfl) ?_
   refine .buildSlice (zs := [.int .u8 0]) (cs := [_]) underlying251 sizeOf5 zeroValue5 rfl rfl rfl (by kernel_rfl) rfl rfl (fun b35 => ?_)
   refine .appendR (A := .row b35 [_] 5) (us := [b8 (BitVec.ofInt 8 ((m * 8 / 2 ^ (8 * (7 - j)) : Nat) : Int))]) (Rd.row (off := 0) (n := 1) (l := [_]) rfl rfl (Nat.le_refl _)) underlying251 typeInfo5 rfl rfl rfl rfl rfl rfl .tk .tk rfl (by simp only [t5, List.length_cons, List.length_nil]; omega) rfl (fun v36 hv36 => ?_)
   refine .v (.assign rfl) (.nil (.blk_normal (TQ.then (.region (.v (.move rfl) ?_)))))
   refine .v (show Val _ _ _ _ (i64 (7 - ((j + 1 : Nat) : Int))) from by rw [show 7 - ((j + 1 : Nat) : Int) = 7 - (j : Int) - 1 by omega]; exact Val.sub64 rfl rfl (by omega)) ?_
   refine .v (.assign rfl) (.nil ?_)
   rw [show GSl 5 1 v36 (rs.length + 1 + zl + j + [b8 (BitVec.ofInt 8 ((m * 8 / 2 ^ (8 * (7 - j)) : Nat) : Int))].length) (b8s (b0 ++ (be8 (m * 8)).take j) ++ [b8 (BitVec.ofInt 8 ((m * 8 / 2 ^ (8 * (7 - j)) : Nat) : Int))]) = GSl 5 1 v36 (rs.length + 1 + zl + (j + 1)) (b8s (b0 ++ (be8 (m * 8)).take (j + 1))) from by rw [← be8_step hlj, ← List.append_assoc, b8s_append (a := b0 ++ _), BitVec.ofInt_natCast]; rfl]
   exact .next ⟨(j + 1, v36), by simp only; omega, hv36⟩ (by simp only; omega) .st .en
  ·
   obtain ⟨⟨j, v2⟩, hj, hv2⟩ := x
   dsimp only at hj hv2 h2 ⊢
   obtain rfl : j = 8 := by omega
   rw [show (be8 (m * 8)).take 8 = be8 (m * 8) from rfl, ← hpe]
   have hpl : (padBy rs m).length = rs.length + 1 + zl + 8 := by rw [hpe, List.length_append, hb0l, be8_len]
   rw [← hpl]
   obtain ⟨pb, hpb⟩ : ∃ pb, padBy rs m = pb := ⟨_, rfl⟩
   rw [hpb] at hpm hpl ⊢
   refine .exit (.then_exit (.then_exit (.blk_hit (TQ.then (.seq (.seq (.region (.v (.assign rfl) (.nil (TQ.then (.block (.loop (X := {x : Nat × S8 // 64 * x.1 ≤ pb.length ∧ putAll s [] (toW pb) = putAll x.2 [] (toW (pb.drop (64 * x.1)))}) (s0 := [(3, _), (6, _), (7, _)]) (fun x => [(9, i64 ((64 * x.1.1 : Nat) : Int))]) (fun x => [.row b3 [w32 x.1.2.a, w32 x.1.2.b, w32 x.1.2.c, w32 x.1.2.d, w32 x.1.2.e, w32 x.1.2.f, w32 x.1.2.g, w32 x.1.2.h] 24]) (fun x => pb.length - 64 * x.1.1) ⟨(0, s), Nat.zero_le _, rfl⟩ .st .pk (fun x => ?_)))))))))))))
   refine .seq (.seq (.region (.v (.move rfl) (.v (.move rfl) (.v (.lenG underlying251 rfl .tk) ?_)))))
   refine .v (.lss rfl rfl) (.nil (TQ.then ?_))
   first | refine .cond_dec rfl (fun h3 => ?_) (fun h3 => ?_) | refine .cond rfl (fun h3 => ?_) (fun h3 => ?_)
   ·
    obtain ⟨⟨k, st⟩, hk, hp⟩ := x
    dsimp only at hk hp h3 ⊢
    have hlk2 : 64 * k + 64 ≤ pb.length := by omega
    have hstep := blk_step hp hlk2 (by omega)
    refine .skip (TQ.then (.seq (.block (.draw (H := []) (.q 1 (.q 2 (.b 0 (.e 3 (.e 4 (.e 5 .done))) 3 (.e 0 (.e 4 (.e 5 .done)))))) (by kernel_rfl) .pk (by kernel_rfl) (by kernel_rfl) (by kernel_rfl) ?_))))
    refine .v rfl (.move rfl) (.v rfl (.move rfl) (.both rfl rfl (fun fu_ li_ hk_ hs_ hl_ => ?_) (fun fu_ li_ hk_ hs_ hl_ => ?_)))
    ·
     refine .v (.loadAgg (vs := [_, _, _, _, _, _, _, _]) isAgg24 sizeOf24 rfl .tk (by rfl) (by rfl)) ?_
     refine .nil (TS.back hk_ hs_ hl_ .pk ?_)
     refine .eff rfl (fun fu_ li_ hk_ hs_ hl_ => ?_)
     refine .call call187 (S_wardenref02_blockAt (A := GSl 5 1 v2 pb.length (b8s pb)) (bs := pb) (o := 64 * k) Rd.gsl (by omega) (by omega)) rfl .pk rfl (fun x46 hx46 => ?_)
     refine .nil (TS.back hk_ hs_ hl_ .pk ?_)
     refine .eff rfl (fun fu_ li_ hk_ hs_ hl_ => ?_)
     refine .call call97 (S_wardenref02_Block (s := st) (b := blkAt pb (64 * k)) (blkAt_len (by omega))) rfl .pk rfl (fun x47 hx47 => ?_)
     refine .nil (TS.back hk_ hs_ hl_ .pk ?_)
     refine .eff rfl (fun fu_ li_ hk_ hs_ hl_ => ?_)
     refine .storeAll (us := [_, _, _, _, _, _, _, _]) sizeOf24 rfl rfl rfl rfl .up rfl ?_
     refine .nil (TS.back hk_ hs_ hl_ .pk ?_)
     refine .done (.blk_normal (TQ.then (.region (.v (.move rfl) ?_))))
     refine .v (show Val _ _ _ _ (i64 ((64 * (k + 1) : Nat) : Int)) from by rw [show ((64 * (k + 1) : Nat) : Int) = ((64 * k : Nat) : Int) + 64 by omega]; exact Val.add64 rfl rfl (by omega)) ?_
     refine .v (.assign rfl) (.nil ?_)
     exact .next ⟨(k + 1, st.block (blkAt pb (64 * k))), by dsimp only; omega, hstep⟩ (by dsimp only; omega) .st .en
    ·
     refine .call call187 (S_wardenref02_blockAt (A := GSl 5 1 v2 pb.length (b8s pb)) (bs := pb) (o := 64 * k) Rd.gsl (by omega) (by omega)) rfl .pk rfl (fun x46 hx46 => ?_)
     refine .nil (TS.back hk_ hs_ hl_ .pk ?_)
     refine .eff rfl (fun fu_ li_ hk_ hs_ hl_ => ?_)
     refine .v (.loadAgg (vs := [_, _, _, _, _, _, _, _]) isAgg24 sizeOf24 rfl .tk (by rfl) (by rfl)) ?_
     refine .nil (TS.back hk_ hs_ hl_ .pk ?_)
     refine .eff rfl (fun fu_ li_ hk_ hs_ hl_ => ?_)
     refine .call call97 (S_wardenref02_Block (s := st) (b := blkAt pb (64 * k)) (blkAt_len (by omega))) rfl .pk rfl (fun x47 hx47 => ?_)
     refine .nil (TS.back hk_ hs_ hl_ .pk ?_)
     refine .eff rfl (fun fu_ li_ hk_ hs_ hl_ => ?_)
     refine .storeAll (us := [_, _, _, _, _, _, _, _]) sizeOf24 rfl rfl rfl rfl .up rfl ?_
     refine .nil (TS.back hk_ hs_ hl_ .pk ?_)
     refine .done (.blk_normal (TQ.then (.region (.v (.move rfl) ?_))))
     refine .v (show Val _ _ _ _ (i64 ((64 * (k + 1) : Nat) : Int)) from by rw [show ((64 * (k + 1) : Nat) : Int) = ((64 * k : Nat) : Int) + 64 by omega]; exact Val.add64 rfl rfl (by omega)) ?_
     refine .v (.assign rfl) (.nil ?_)
     exact .next ⟨(k + 1, st.block (blkAt pb (64 * k))), by dsimp only; omega, hstep⟩ (by dsimp only; omega) .st .en
   ·
    obtain ⟨⟨k, st⟩, hk, hp⟩ := x
    dsimp only at hk hp h3 ⊢
    have hend : putAll s [] (toW pb) = (st, []) := by rw [hp, List.drop_eq_nil_of_le (by omega)]; rfl
    refine .exit (.then_exit (.then_exit (.blk_hit (TQ.then (.seq (.region (.v (.loadAgg (vs := [_, _, _, _, _, _, _, _]) isAgg24 sizeOf24 rfl .tk (by rfl) (by rfl)) ?_)))))))
    refine .storeAll (us := [_, _, _, _, _, _, _, _]) sizeOf24 rfl rfl rfl rfl .up rfl ?_
    refine .nil (TQ.then (.ret ?_))
    exact .ret results188 (.agg isAgg24 sizeOf24 rfl .tk (by rfl) (by rfl) .nil) () (by show S8.val (putAll s [] (toW pb)).1 = _; rw [hend]; rfl) trivial .en

set_option maxHeartbeats 1000000 in
theorem S_wardenref02_SumBytes {AK1 : Assn} {bs : List B} {u : Value} {A : Assn} (hR : Rd A u (b8s bs)) (hu : bs.length ≤ 1099511627776) (h0 : 0 < bs.length) (hK1 : Tab AK1 1 := by assumption) : Spec prog 179 [u].toArray [AK1, A] (fun _ : Unit => True) (fun _ => (sumB bs).val) (fun _ => [AK1, A]) := by
 refine Spec.body func179 rfl ntmps179 rfl (fun σ R => ?_)
 refine .seq (.region (.alloc zeroValue24 rfl rfl (fun b2 => ?_)))
 refine .nil (TQ.then (.seq (.openRd (v := u) .tk hR (fun hv3 hv4 => ?_) (fun g off cp hv3 hcp => ?_))))
 ·
  exfalso; have h0 : bs.length = 0 := by have h := congrArg List.length hv4; rwa [b8s_length] at h
  omega
 subst hv3
 rw [b8s_length] at hcp
 refine .region (.call call95 (S_wardenref02_First) rfl .pk rfl (fun x5 hx5 => ?_))
 refine .alloc zeroValue24 rfl rfl (fun b3 => ?_)
 refine .storeAll (us := [_, _, _, _, _, _, _, _]) sizeOf24 rfl rfl rfl rfl .up rfl ?_
 refine .nil (TQ.then (.seq (.region (.v (.assign rfl) (.nil (TQ.then (.seq (.block ?_))))))))
 refine .loop (X := {x : Nat × S8 // 64 * x.1 ≤ bs.length ∧ putAll S8.first [] (toW (bs.take (64 * x.1))) = (x.2, [])}) (s0 := [(0, _), (2, _), (3, _)]) (fun x => [(4, i64 ((64 * x.1.1 : Nat) : Int))]) (fun x => [.row b3 [w32 x.1.2.a, w32 x.1.2.b, w32 x.1.2.c, w32 x.1.2.d, w32 x.1.2.e, w32 x.1.2.f, w32 x.1.2.g, w32 x.1.2.h] 24]) (fun x => bs.length - 64 * x.1.1) ⟨(0, S8.first), Nat.zero_le _, by show putAll _ _ (toW (bs.take 0)) = _; rw [List.take_zero]; rfl⟩ .st .pk (fun x => ?_)
 refine .seq (.seq (.region (.v (.move rfl) (.v (.add64 rfl rfl (by omega)) ?_))))
 refine .v (.move rfl) (.v (.lenE underlying251 rfl b8s_length) ?_)
 refine .v (.leq rfl rfl) (.nil (TQ.then ?_))
 first | refine .cond_dec rfl (fun h1 => ?_) (fun h1 => ?_) | refine .cond rfl (fun h1 => ?_) (fun h1 => ?_)
 ·
  obtain ⟨⟨k, st⟩, hk, hp⟩ := x
  dsimp only at hk hp h1 ⊢
  have hlk : 64 * k + 64 ≤ bs.length := by omega
  have hbl := blkAt_len (l := bs) (o := 64 * k) hlk
  have hstep : putAll S8.first [] (toW (bs.take (64 * (k + 1)))) = (st.block (blkAt bs (64 * k)), []) := by rw [toW_take hlk, putAll_append, hp]; exact putAll_block (by rw [List.length_nil, Nat.zero_add]; exact hbl) (by intro h; rw [blkAt, h] at hbl; simp at hbl)
  refine .skip (TQ.then (.block (.seq (.draw (H := []) (.q 1 (.q 2 (.b 0 (.e 3 (.e 4 (.e 5 .done))) 3 (.e 0 (.e 4 (.e 5 .done)))))) (by kernel_rfl) .pk (by kernel_rfl) (by kernel_rfl) (by kernel_rfl) ?_))))
  refine .v rfl (.move rfl) (.v rfl (.move rfl) (.both rfl rfl (fun fu_ li_ hk_ hs_ hl_ => ?_) (fun fu_ li_ hk_ hs_ hl_ => ?_)))
  ·
   refine .v (.loadAgg (vs := [_, _, _, _, _, _, _, _]) isAgg24 sizeOf24 rfl .tk (by rfl) (by rfl)) ?_
   refine .nil (TS.back hk_ hs_ hl_ .pk ?_)
   refine .eff rfl (fun fu_ li_ hk_ hs_ hl_ => ?_)
   refine .call call187 (S_wardenref02_blockAt (bs := bs) (o := 64 * k) hR (by omega) (by omega)) rfl .pk rfl (fun x14 hx14 => ?_)
   refine .nil (TS.back hk_ hs_ hl_ .pk ?_)
   refine .eff rfl (fun fu_ li_ hk_ hs_ hl_ => ?_)
   refine .call call97 (S_wardenref02_Block (s := st) (b := blkAt bs (64 * k)) hbl) rfl .pk rfl (fun x15 hx15 => ?_)
   refine .nil (TS.back hk_ hs_ hl_ .pk ?_)
   refine .eff rfl (fun fu_ li_ hk_ hs_ hl_ => ?_)
   refine .storeAll (us := [_, _, _, _, _, _, _, _]) sizeOf24 rfl rfl rfl rfl .up rfl ?_
   refine .nil (TS.back hk_ hs_ hl_ .pk ?_)
   refine .done (TQ.then (.region (.v (.move rfl) ?_)))
   refine .v (show Val _ _ _ _ (i64 ((64 * (k + 1) : Nat) : Int)) from by rw [show ((64 * (k + 1) : Nat) : Int) = ((64 * k : Nat) : Int) + 64 by omega]; exact Val.add64 rfl rfl (by omega)) ?_
   refine .v (.assign rfl) (.nil (.blk_normal ?_))
   exact .next ⟨(k + 1, st.block (blkAt bs (64 * k))), by dsimp only; omega, hstep⟩ (by dsimp only; omega) .st .en
  ·
   refine .call call187 (S_wardenref02_blockAt (bs := bs) (o := 64 * k) hR (by omega) (by omega)) rfl .pk rfl (fun x14 hx14 => ?_)
   refine .nil (TS.back hk_ hs_ hl_ .pk ?_)
   refine .eff rfl (fun fu_ li_ hk_ hs_ hl_ => ?_)
   refine .v (.loadAgg (vs := [_, _, _, _, _, _, _, _]) isAgg24 sizeOf24 rfl .tk (by rfl) (by rfl)) ?_
   refine .nil (TS.back hk_ hs_ hl_ .pk ?_)
   refine .eff rfl (fun fu_ li_ hk_ hs_ hl_ => ?_)
   refine .call call97 (S_wardenref02_Block (s := st) (b := blkAt bs (64 * k)) hbl) rfl .pk rfl (fun x15 hx15 => ?_)
   refine .nil (TS.back hk_ hs_ hl_ .pk ?_)
   refine .eff rfl (fun fu_ li_ hk_ hs_ hl_ => ?_)
   refine .storeAll (us := [_, _, _, _, _, _, _, _]) sizeOf24 rfl rfl rfl rfl .up rfl ?_
   refine .nil (TS.back hk_ hs_ hl_ .pk ?_)
   refine .done (TQ.then (.region (.v (.move rfl) ?_)))
   refine .v (show Val _ _ _ _ (i64 ((64 * (k + 1) : Nat) : Int)) from by rw [show ((64 * (k + 1) : Nat) : Int) = ((64 * k : Nat) : Int) + 64 by omega]; exact Val.add64 rfl rfl (by omega)) ?_
   refine .v (.assign rfl) (.nil (.blk_normal ?_))
   exact .next ⟨(k + 1, st.block (blkAt bs (64 * k))), by dsimp only; omega, hstep⟩ (by dsimp only; omega) .st .en
 ·
  obtain ⟨⟨k, st⟩, hk, hp⟩ := x
  dsimp only at hk hp h1 ⊢
  have hRd := Rd.drop (j := 64 * k) hR (by rw [b8s_length]; omega)
  rw [b8s_drop] at hRd
  refine .exit (.then_exit (.then_exit (.blk_hit (TQ.then (.seq (.draw (H := [.row b3 _ _]) (.q 0 (.q 1 (.q 2 (.q 3 (.q 4 (.q 5 (.q 6 (.e 7 (.e 8 .done))))))))) (by kernel_rfl) .pk (by kernel_rfl) (by kernel_rfl) (by kernel_rfl) ?_))))))
  refine .v rfl (.loadAgg (vs := [_, _, _, _, _, _, _, _]) isAgg24 sizeOf24 rfl .tk (by rfl) (by rfl)) ?_
  refine .v rfl (.move rfl) (.v rfl (.move rfl) (.v rfl (.sliceLoN underlying251 sizeOf5 rfl rfl (by rw [b8s_length]; omega)) ?_))
  refine .v rfl (.move rfl) (.v rfl (.lenE underlying251 rfl b8s_length) ?_)
  refine .v rfl (.conv_n64_u64 underlying3 underlying171 rfl (by omega)) ?_
  refine .eff rfl (fun fu_ li_ hk_ hs_ hl_ => ?_)
  refine .call call188 (S_wardenref02_ended (s := st) (rs := bs.drop (64 * k)) (m := bs.length) hRd (by rw [List.length_drop]; omega) (by omega)) rfl .pk rfl (fun x25 hx25 => ?_)
  refine .nil (TS.back hk_ hs_ hl_ .pk ?_)
  refine .eff rfl (fun fu_ li_ hk_ hs_ hl_ => ?_)
  refine .storeAll (us := [_, _, _, _, _, _, _, _]) sizeOf24 rfl rfl rfl rfl .up rfl ?_
  refine .nil (TS.back hk_ hs_ hl_ .pk ?_)
  refine .done (TQ.then (.ret ?_))
  rw [← sum_parts hk hp]
  exact .ret results179 (.agg isAgg24 sizeOf24 rfl .tk (by rfl) (by rfl) .nil) () rfl trivial .en

set_option maxHeartbeats 400000 in
theorem S_wardenref03_padded {ks : List B} {p : B} {u : Value} {A : Assn} (hR : Rd A u (b8s ks)) (hu : ks.length ≤ 64) (h0 : 0 < ks.length) : Spec prog 178 [u, b8 p].toArray [A] (fun x : Value => isCell x = true) (fun x => x) (fun x => [GSl 5 1 x 64 (b8s (padB ks p)), A]) := by
 refine Spec.body func178 rfl ntmps178 rfl (fun σ R => ?_)
 refine .seq (.region (.v (.assign rfl) (.nil (TQ.then (.seq ?_)))))
 have hpb := padB_len (p := p) hu
 refine .openRd (v := u) .tk hR (fun hv3 hv4 => ?_) (fun g off cp hv3 hcp => ?_)
 ·
  exfalso; have h0 : ks.length = 0 := by have h := congrArg List.length hv4; rwa [b8s_length] at h
  omega
 subst hv3
 rw [b8s_length] at hcp
 refine .region (.v (.move rfl) (.v (.assign rfl) (.nil (TQ.then (.seq (.seq (.region (.v (.move rfl) (.v (.lenE underlying251 rfl b8s_length) ?_)))))))))
 refine .v (.gtr rfl rfl) (.nil (TQ.then ?_))
 first | refine .cond_dec rfl (fun h1 => ?_) (fun h1 => ?_) | refine .cond rfl (fun h1 => ?_) (fun h1 => ?_)
 ·
  exfalso; omega
 ·
  refine .skip (TQ.then (.seq (.ent (GSl.emp (E := 5) (k := 1)) ?_)))
  refine .region (.v (.assign rfl) (.nil (TQ.then (.seq (.seq (.region (.v (.assign rfl) (.nil (TQ.then (.block (.loop (X := {x : Nat × Value // x.1 ≤ 64 ∧ isCell x.2 = true}) (s0 := [(1, _), (5, _)]) (fun x => [(7, x.1.2), (8, i64 x.1.1)]) (fun x => [GSl 5 1 x.1.2 x.1.1 (b8s ((padB ks p).take x.1.1))]) (fun x => 64 - x.1.1) ⟨(0, .slice none 0 0), Nat.zero_le _, rfl⟩ .st .pk (fun x => ?_))))))))))))
  refine .seq (.seq (.region (.v (.move rfl) (.v (.lss rfl rfl) (.nil (TQ.then ?_))))))
  first | refine .cond_dec rfl (fun h2 => ?_) (fun h2 => ?_) | refine .cond rfl (fun h2 => ?_) (fun h2 => ?_)
  ·
   obtain ⟨⟨i, v1⟩, hi, hv1⟩ := x
   dsimp only at hi hv1 h2 ⊢
   have hlt : i < 64 := by omega
   have hat := padB_at (ks := ks) (p := p) hlt
   refine .skip (TQ.then (.seq (.block (.seq (.region (.v (.assign (v := b8 0#8) rfl) (.nil (TQ.then (.seq (.seq (.region (.v (.move rfl) (.v (.move rfl) (.v (.lenE underlying251 rfl b8s_length) ?_))))))))))))))
   refine .v (.lss rfl rfl) (.nil (TQ.then ?_))
   first | refine .cond_dec rfl (fun h3 => ?_) (fun h3 => ?_) | refine .cond rfl (fun h3 => ?_) (fun h3 => ?_)
   ·
    rw [if_pos (by omega)] at hat
    refine .region (.v (.move rfl) (.v (.move rfl) (.v (.ixSlice1 underlying251 sizeOf5 rfl rfl (by rw [b8s_length]; omega)) ?_)))
    refine .v (.loadRd (i := i) isAgg5 rfl .tk hR (b8s_get (bAt_get (by omega))) (by omega)) ?_
    refine .v (.assign rfl) (.nil (TQ.then (.region (.v (.move rfl) (.v (.move rfl) (.v (.move rfl) (.v (.xor8 rfl rfl) ?_)))))))
    refine .buildSlice (zs := [.int .u8 0]) (cs := [_]) underlying251 sizeOf5 zeroValue5 rfl rfl rfl (by kernel_rfl) rfl rfl (fun b34 => ?_)
    rw [← hat]
    refine .appendR (A := .row b34 [_] 5) (us := [b8 (bAt (padB ks p) i)]) (Rd.row (off := 0) (n := 1) (l := [_]) rfl rfl (Nat.le_refl _)) underlying251 typeInfo5 rfl rfl rfl rfl rfl rfl .tk .tk rfl (by simp only [t5, List.length_cons, List.length_nil]; omega) rfl (fun v35 hv35 => ?_)
    refine .v (.assign rfl) (.nil (.blk_normal (TQ.then (.region (.v (.move rfl) (.v (.add64 rfl rfl (by omega)) ?_))))))
    refine .v (.assign rfl) (.nil ?_)
    rw [show GSl 5 1 v35 (i + [b8 (bAt (padB ks p) i)].length) (b8s ((padB ks p).take i) ++ [b8 (bAt (padB ks p) i)]) = GSl 5 1 v35 (i + 1) (b8s ((padB ks p).take (i + 1))) from by rw [← take_snoc (by omega), b8s_append]; rfl]
    exact .next ⟨(i + 1, v35), by dsimp only; omega, hv35⟩ (by dsimp only; omega) .st .en
   ·
    rw [if_neg (by omega)] at hat
    refine .skip (TQ.then (.region (.v (.move rfl) (.v (.move rfl) (.v (.move rfl) (.v (.xor8 rfl rfl) ?_))))))
    refine .buildSlice (zs := [.int .u8 0]) (cs := [_]) underlying251 sizeOf5 zeroValue5 rfl rfl rfl (by kernel_rfl) rfl rfl (fun b34 => ?_)
    rw [show (0#8 : B) ^^^ p = bAt (padB ks p) i from hat.symm]
    refine .appendR (A := .row b34 [_] 5) (us := [b8 (bAt (padB ks p) i)]) (Rd.row (off := 0) (n := 1) (l := [_]) rfl rfl (Nat.le_refl _)) underlying251 typeInfo5 rfl rfl rfl rfl rfl rfl .tk .tk rfl (by simp only [t5, List.length_cons, List.length_nil]; omega) rfl (fun v35 hv35 => ?_)
    refine .v (.assign rfl) (.nil (.blk_normal (TQ.then (.region (.v (.move rfl) (.v (.add64 rfl rfl (by omega)) ?_))))))
    refine .v (.assign rfl) (.nil ?_)
    rw [show GSl 5 1 v35 (i + [b8 (bAt (padB ks p) i)].length) (b8s ((padB ks p).take i) ++ [b8 (bAt (padB ks p) i)]) = GSl 5 1 v35 (i + 1) (b8s ((padB ks p).take (i + 1))) from by rw [← take_snoc (by omega), b8s_append]; rfl]
    exact .next ⟨(i + 1, v35), by dsimp only; omega, hv35⟩ (by dsimp only; omega) .st .en
  ·
   obtain ⟨⟨i, v1⟩, hi, hv1⟩ := x
   dsimp only at hi hv1 h2 ⊢
   obtain rfl : i = 64 := by omega
   rw [List.take_of_length_le (by omega)]
   refine .exit (.then_exit (.then_exit (.blk_hit (TQ.then (.seq (.region (.v (.move rfl) (.v (.assign rfl) (.nil (TQ.then (.ret ?_)))))))))))
   exact .ret results178 (.tmp rfl .nil) v1 (by first | rfl | simp [tup, *]) hv1 .en

set_option maxHeartbeats 1000000 in
theorem S_wardenref03_TagBytes {AK1 : Assn} {ks ms : List B} {u v : Value} {A A2 : Assn} (hR : Rd A u (b8s ks)) (hu : ks.length ≤ 64) (h0 : 0 < ks.length) (hR2 : Rd A2 v (b8s ms)) (hu2 : ms.length ≤ 549755813888) (hK1 : Tab AK1 1 := by assumption) : Spec prog 168 [u, v].toArray [AK1, A, A2] (fun _ : Unit => True) (fun _ => (tagB ks ms).val) (fun _ => [AK1, A, A2]) := by
 refine Spec.body func168 rfl ntmps168 rfl (fun σ R => ?_)
 refine .seq (.region (.alloc zeroValue24 rfl rfl (fun b4 => ?_)))
 refine .nil (TQ.then (.seq (.region (.v (.move rfl) (.call call178 (S_wardenref03_padded (p := 54#8) hR hu h0) rfl .pk rfl (fun x10 hx10 => ?_))))))
 refine .v (.assign rfl) (.nil (TQ.then (.seq ?_)))
 have hp1 := padB_len (p := 54#8) hu
 have hp2 := padB_len (p := 92#8) hu
 refine .region (.v (.move rfl) (.v (.move rfl) (.appendR (A := A2) (us := b8s ms) hR2 underlying251 typeInfo5 rfl rfl rfl rfl rfl rfl .tk .tk b8s_cells (by simp only [t5]; rw [b8s_length]; omega) rfl (fun v13 hv13 => ?_))))
 rw [show GSl 5 1 v13 (64 + (b8s ms).length) (b8s (padB ks 54#8) ++ b8s ms) = GSl 5 1 v13 (64 + ms.length) (b8s (padB ks 54#8 ++ ms)) from by rw [b8s_append, b8s_length]]
 refine .v (.assign rfl) (.nil (TQ.then (.seq (.region (.v (.move rfl) (.call call179 (S_wardenref02_SumBytes (A := GSl 5 1 v13 (64 + ms.length) (b8s (padB ks 54#8 ++ ms))) (bs := padB ks 54#8 ++ ms) Rd.gsl (by rw [List.length_append]; omega) (by rw [List.length_append]; omega)) rfl .pk rfl (fun x15 hx15 => ?_)))))))
 refine .alloc zeroValue24 rfl rfl (fun b6 => ?_)
 refine .storeAll (us := [_, _, _, _, _, _, _, _]) sizeOf24 rfl rfl rfl rfl .up rfl ?_
 refine .nil (TQ.then (.seq ?_))
 obtain ⟨q, hq⟩ : ∃ q, sumB (padB ks 54#8 ++ ms) = q := ⟨_, rfl⟩
 rw [hq]
 refine .region (.v (.move rfl) (.call call178 (S_wardenref03_padded (p := 92#8) hR hu h0) rfl .pk rfl (fun x17 hx17 => ?_)))
 refine .v (.assign rfl) (.nil (TQ.then (.seq (.region (.v (.sliceArr underlying24 sizeOf23 rfl) ?_)))))
 refine .call call167 (S_wardenref01_Bytes (A := .row b6 [w32 q.a, w32 q.b, w32 q.c, w32 q.d, w32 q.e, w32 q.f, w32 q.g, w32 q.h] 24) (us := q.ws) (Rd.row rfl rfl (Nat.le_refl _)) (by show 8 ≤ _; decide)) rfl .pk rfl (fun x19 hx19 => ?_)
 refine .v (.assign rfl) (.nil (TQ.then (.seq (.region (.v (.move rfl) (.v (.move rfl) ?_))))))
 refine .appendR (A := GSl 5 1 x19 (4 * q.ws.length) (b8s (bytesOf q.ws))) (us := b8s (bytesOf q.ws)) Rd.gsl underlying251 typeInfo5 rfl rfl rfl rfl rfl rfl .tk .tk b8s_cells (by simp only [t5]; rw [b8s_length, bytesOf_len]; show (64 + 4 * 8) * _ ≤ _; decide) rfl (fun v22 hv22 => ?_)
 rw [show GSl 5 1 v22 (64 + (b8s (bytesOf q.ws)).length) (b8s (padB ks 92#8) ++ b8s (bytesOf q.ws)) = GSl 5 1 v22 96 (b8s (padB ks 92#8 ++ bytesOf q.ws)) from by rw [b8s_append, b8s_length, bytesOf_len]; rfl]
 refine .v (.assign rfl) (.nil (TQ.then (.seq (.region (.v (.move rfl) (.call call179 (S_wardenref02_SumBytes (A := GSl 5 1 v22 96 (b8s (padB ks 92#8 ++ bytesOf q.ws))) (bs := padB ks 92#8 ++ bytesOf q.ws) Rd.gsl (by rw [List.length_append, hp2, bytesOf_len]; show 64 + 4 * 8 ≤ _; decide) (by rw [List.length_append]; omega)) rfl .pk rfl (fun x24 hx24 => ?_)))))))
 refine .storeAll (us := [_, _, _, _, _, _, _, _]) sizeOf24 rfl rfl rfl rfl .up rfl ?_
 refine .nil (TQ.then (.ret ?_))
 exact .ret results168 (.agg isAgg24 sizeOf24 rfl .tk (by rfl) (by rfl) .nil) () (by show S8.val (tagB ks ms) = _; rw [tagB, hq]; rfl) trivial .en

set_option maxHeartbeats 400000 in
theorem S_wardenref03_Tag {AK1 : Assn} {us ms : List W} {u v : Value} {A A2 : Assn} (hR : Rd A u (w32s us)) (hu : us.length ≤ 16) (h0 : 0 < us.length) (hR2 : Rd A2 v (w32s ms)) (hu2 : ms.length ≤ 68719476736) (hK1 : Tab AK1 1 := by assumption) : Spec prog 145 [u, v].toArray [AK1, A, A2] (fun _ : Unit => True) (fun _ => (macW us ms).val) (fun _ => [AK1, A, A2]) := by
 refine Spec.body func145 rfl ntmps145 rfl (fun σ R => ?_)
 refine .seq (.region (.alloc zeroValue24 rfl rfl (fun b4 => ?_)))
 refine .nil (TQ.then (.seq (.region (.v (.move rfl) (.call call167 (S_wardenref01_Bytes hR (by omega)) rfl .pk rfl (fun x8 hx8 => ?_))))))
 refine .v (.assign rfl) (.nil (TQ.then (.seq (.region (.v (.move rfl) (.call call167 (S_wardenref01_Bytes hR2 (by omega)) rfl .pk rfl (fun x10 hx10 => ?_)))))))
 refine .v (.assign rfl) (.nil (TQ.then (.seq (.region (.v (.move rfl) (.v (.move rfl) (.call call168 (S_wardenref03_TagBytes (A := GSl 5 1 x8 (4 * us.length) (b8s (bytesOf us))) (A2 := GSl 5 1 x10 (4 * ms.length) (b8s (bytesOf ms))) (ks := bytesOf us) (ms := bytesOf ms) Rd.gsl (by rw [bytesOf_len]; omega) (by rw [bytesOf_len]; omega) Rd.gsl (by rw [bytesOf_len]; omega)) rfl .pk rfl (fun x13 hx13 => ?_))))))))
 refine .storeAll (us := [_, _, _, _, _, _, _, _]) sizeOf24 rfl rfl rfl rfl .up rfl ?_
 refine .nil (TQ.then (.ret ?_))
 exact .ret results145 (.agg isAgg24 sizeOf24 rfl .tk (by rfl) (by rfl) .nil) () (by show S8.val (macW us ms) = _; rw [← tag_words hu (by omega)]; rfl) trivial .en

set_option maxHeartbeats 400000 in
theorem S_wardenref16_Tag {AK1 : Assn} {K M D : S8} (hK1 : Tab AK1 1 := by assumption) : Spec prog 112 [K.val, M.val, D.val].toArray [AK1] (fun _ : Unit => True) (fun _ => (macW K.ws (M.ws ++ D.ws)).val) (fun _ => [AK1]) := by
 refine Spec.body func112 rfl ntmps112 rfl (fun σ R => ?_)
 refine .seq (.region (.box (vs := [_, _, _, _, _, _, _, _]) rfl rfl rfl (fun b3 => ?_)))
 refine .box (vs := [_, _, _, _, _, _, _, _]) rfl rfl rfl (fun b4 => ?_)
 refine .box (vs := [_, _, _, _, _, _, _, _]) rfl rfl rfl (fun b5 => ?_)
 refine .alloc zeroValue24 rfl rfl (fun b6 => ?_)
 refine .nil (TQ.then (.seq (.ent (GSl.emp (E := 23) (k := 1)) ?_)))
 refine .region (.v (.assign rfl) (.nil (TQ.then (.seq (.region (.v (.move rfl) (.v (.sliceArr underlying24 sizeOf23 rfl) ?_)))))))
 refine .appendR (v := .slice none 0 0) (A := .row b4 [w32 M.a, w32 M.b, w32 M.c, w32 M.d, w32 M.e, w32 M.f, w32 M.g, w32 M.h] 24) (us := w32s M.ws) (Rd.row (off := 0) (n := 8) rfl rfl (Nat.le_refl _)) underlying31 typeInfo23 rfl rfl rfl rfl rfl rfl .tk .tk rfl (by simp only [t23]; show (0 + 8) * _ ≤ _; decide) rfl (fun v10 hv10 => ?_)
 rw [show GSl 23 1 v10 (0 + (w32s M.ws).length) ([] ++ w32s M.ws) = GSl 23 1 v10 8 (w32s M.ws) from rfl]
 refine .v (.assign rfl) (.nil (TQ.then (.seq (.region (.v (.move rfl) (.v (.sliceArr underlying24 sizeOf23 rfl) ?_))))))
 refine .appendR (A := .row b5 [w32 D.a, w32 D.b, w32 D.c, w32 D.d, w32 D.e, w32 D.f, w32 D.g, w32 D.h] 24) (us := w32s D.ws) (Rd.row (off := 0) (n := 8) rfl rfl (Nat.le_refl _)) underlying31 typeInfo23 rfl rfl rfl rfl rfl rfl .tk .tk rfl (by simp only [t23]; show (8 + 8) * _ ≤ _; decide) rfl (fun v13 hv13 => ?_)
 rw [show GSl 23 1 v13 (8 + (w32s D.ws).length) (w32s M.ws ++ w32s D.ws) = GSl 23 1 v13 16 (w32s (M.ws ++ D.ws)) from rfl]
 refine .v (.assign rfl) (.nil (TQ.then (.seq (.region (.v (.sliceArr underlying24 sizeOf23 rfl) ?_)))))
 refine .v (.move rfl) (.call call145 (S_wardenref03_Tag (A := .row b3 [w32 K.a, w32 K.b, w32 K.c, w32 K.d, w32 K.e, w32 K.f, w32 K.g, w32 K.h] 24) (us := K.ws) (A2 := GSl 23 1 v13 16 (w32s (M.ws ++ D.ws))) (ms := M.ws ++ D.ws) (Rd.row (off := 0) (n := 8) rfl rfl (Nat.le_refl _)) (by show 8 ≤ _; decide) (by show 0 < 8; decide) Rd.gsl (by show 16 ≤ _; decide)) rfl .pk rfl (fun x16 hx16 => ?_))
 refine .storeAll (us := [_, _, _, _, _, _, _, _]) sizeOf24 rfl rfl rfl rfl .up rfl ?_
 refine .nil (TQ.then (.ret ?_))
 exact .ret results112 (.agg isAgg24 sizeOf24 rfl .tk (by rfl) (by rfl) .nil) () rfl trivial .en

theorem leqV_ws {a b : S8} : leqV (w32s a.ws) (w32s b.ws) = decide (a = b) := by
 rw [Bool.eq_iff_iff, leqV_iff, decide_eq_true_iff, w32s_inj, S8.ws_inj]

set_option maxHeartbeats 400000 in
theorem S_wardenref16_Verify {AK1 : Assn} {K M D T : S8} (hK1 : Tab AK1 1 := by assumption) : Spec prog 115 [K.val, M.val, D.val, T.val].toArray [AK1] (fun _ : Unit => True) (fun _ => .bool (decide (macW K.ws (M.ws ++ D.ws) = T))) (fun _ => [AK1]) := by
 refine Spec.body func115 rfl ntmps115 rfl (fun σ R => ?_)
 refine .seq (.region (.box (vs := [_, _, _, _, _, _, _, _]) rfl rfl rfl (fun b4 => ?_)))
 refine .box (vs := [_, _, _, _, _, _, _, _]) rfl rfl rfl (fun b5 => ?_)
 refine .box (vs := [_, _, _, _, _, _, _, _]) rfl rfl rfl (fun b6 => ?_)
 refine .box (vs := [_, _, _, _, _, _, _, _]) rfl rfl rfl (fun b7 => ?_)
 refine .v (.assign rfl) (.nil (TQ.then (.seq (.draw (H := [.row b4 _ _, .row b5 _ _, .row b6 _ _, .row b7 _ _]) (.q 0 (.q 1 (.q 2 (.q 4 (.e 3 (.q 5 (.q 6 .done))))))) (by kernel_rfl) .pk (by kernel_rfl) (by kernel_rfl) (by kernel_rfl) ?_))))
 refine .v rfl (.loadAgg (vs := [_, _, _, _, _, _, _, _]) isAgg24 sizeOf24 rfl .tk (by rfl) (by rfl)) ?_
 refine .v rfl (.loadAgg (vs := [_, _, _, _, _, _, _, _]) isAgg24 sizeOf24 rfl .tk (by rfl) (by rfl)) ?_
 refine .v rfl (.loadAgg (vs := [_, _, _, _, _, _, _, _]) isAgg24 sizeOf24 rfl .tk (by rfl) (by rfl)) ?_
 refine .v rfl (.loadAgg (vs := [_, _, _, _, _, _, _, _]) isAgg24 sizeOf24 rfl .tk (by rfl) (by rfl)) ?_
 refine .eff rfl (fun fu_ li_ hk_ hs_ hl_ => ?_)
 refine .call call112 (S_wardenref16_Tag) rfl .pk rfl (fun x12 hx12 => ?_)
 refine .nil (TS.back hk_ hs_ hl_ .pk ?_)
 refine .v rfl (.eqlAg eqGuardType24 isAgg24 sizeOf24 typeInfo24 rfl rfl (EqOk.words underlying24 underlying23 typeInfo23 isAgg23 sizeOf23 typeInfo24 isAgg24 sizeOf24 (macW K.ws (M.ws ++ D.ws)).ws T.ws rfl rfl)) ?_
 refine .v rfl (.assign rfl) (.done (TQ.then (.ret ?_)))
 exact .ret results115 (.tmp rfl .nil) () (congrArg Value.bool leqV_ws.symm) trivial .en

theorem fo_116_0_WRefMac : FieldOff prog 116 0 0 := FieldOff.of 24 8 underlying116 rfl sizeOf24 rfl
theorem fo_116_1_WRefMac : FieldOff prog 116 1 8 := FieldOff.of 31 1 underlying116 rfl sizeOf31 rfl
theorem fo_116_2_WRefMac : FieldOff prog 116 2 9 := FieldOff.of 2 1 underlying116 rfl sizeOf2 rfl
set_option maxHeartbeats 1000000 in
theorem S_wardenref02_Digest_Save {D : Dig} {v : Value} (hD : D.ok) : Spec prog 69 [.agg #[w32 D.st.a, w32 D.st.b, w32 D.st.c, w32 D.st.d, w32 D.st.e, w32 D.st.f, w32 D.st.g, w32 D.st.h, v, i64 D.n]].toArray [GSl 23 1 v D.ws.length (w32s D.ws)] (fun _ : Unit => True) (fun _ => .agg (w32s D.save).toArray) (fun _ => [GSl 23 1 v D.ws.length (w32s D.ws)]) := by
 refine Spec.body func69 rfl ntmps69 rfl (fun σ R => ?_)
 obtain ⟨st, n, ws⟩ := D
 obtain ⟨hn0, hn1, hw⟩ := hD
 dsimp only at hn0 hn1 hw ⊢
 refine .shpG .tk (fun hS => ?_)
 refine .seq (.region (.box (vs := [_, _, _, _, _, _, _, _, _, _]) rfl rfl rfl (fun b1 => ?_)))
 refine .alloc (zs := w32s (List.replicate 26 0)) zeroValue120 (by kernel_rfl) rfl (fun b2 => ?_)
 refine .nil (TQ.then (.seq (.region (.alloc (zs := w32s (List.replicate 26 0)) zeroValue120 (by kernel_rfl) rfl (fun b3 => ?_)))))
 refine .nil (TQ.then (.seq (.seq ?_)))
 have hsl := Dig.save_len (D := ⟨st, n, ws⟩) ⟨hn0, hn1, hw⟩
 refine .region (.v (.assign rfl) (.nil (TQ.then (.block (.loop (X := {i : Nat // i ≤ 8}) (s0 := [(1, _), (2, _), (3, _)]) (fun x => [(4, i64 x.1)]) (fun x => [.row b3 (w32s (st.ws.take x.1 ++ List.replicate (26 - x.1) 0)) 120]) (fun x => 8 - x.1) ⟨0, by decide⟩ .st .pk (fun x => ?_))))))
 refine .seq (.seq (.region (.v (.move rfl) (.v (.lss rfl rfl) (.nil (TQ.then ?_))))))
 first | refine .cond_dec rfl (fun h1 => ?_) (fun h1 => ?_) | refine .cond rfl (fun h1 => ?_) (fun h1 => ?_)
 ·
  obtain ⟨i, hi⟩ := x
  dsimp only at hi h1 ⊢
  have hlt : i < 8 := by omega
  refine .skip (TQ.then (.seq (.block (.region (.v (.move rfl) (.v (.move rfl) (.v (.field fo_116_0_WRefMac rfl) (.v (.ixArr1 underlying24 sizeOf23 rfl rfl (by omega)) ?_))))))))
  refine .v (.load isAgg23 rfl .tk (st_get (by rw [show 0 + ((i : Nat) : Int).toNat = i by omega]; exact wAt_get (l := st.ws) hlt))) ?_
  refine .v (.ixArr1 underlying120 sizeOf23 rfl rfl (by omega)) ?_
  refine .storeTo (new := w32s (st.ws.take (i + 1) ++ List.replicate (26 - (i + 1)) 0)) sizeOf23 rfl rfl rfl .up (by rw [show 0 + ((i : Nat) : Int).toNat = i by omega, ← fill26 hlt]; exact w32s_set) (by rw [w32s_length, List.length_append, List.length_take, List.length_replicate]; have : st.ws.length = 8 := rfl; omega) ?_
  refine .nil (.blk_normal (TQ.then (.region (.v (.move rfl) (.v (.add64 rfl rfl (by omega)) ?_)))))
  refine .v (.assign rfl) (.nil ?_)
  exact .next ⟨i + 1, by omega⟩ (by dsimp only; omega) .st .en
 ·
  obtain ⟨i, hi⟩ := x
  dsimp only at hi h1 ⊢
  obtain rfl : i = 8 := by omega
  rw [show st.ws.take 8 ++ List.replicate (26 - 8) (0 : W) = st.ws ++ List.replicate 18 0 from rfl]
  refine .exit (.then_exit (.then_exit (.blk_hit (TQ.then (.seq (.region (.v (.field fo_116_2_WRefMac rfl) (.v (.load isAgg2 rfl .tk (by rfl)) ?_))))))))
  refine .v (show Val _ _ _ _ (.int .u64 (n.toNat : Int)) from by rw [show (n.toNat : Int) = n % 18446744073709551616 by omega]; exact Val.conv_i64_u64 underlying2 underlying171 rfl) ?_
  refine .v (.shrU64 (k := 32) (by decide) rfl rfl) ?_
  refine .v (.conv_u64_32 underlying171 underlying23 rfl) ?_
  refine .v (.ixArr1 underlying120 sizeOf23 rfl rfl (by omega)) ?_
  refine .storeTo (new := w32s ((st.ws ++ List.replicate 18 0).set 8 (hiW n.toNat))) sizeOf23 rfl rfl rfl .up (by rw [BitVec.ofInt_natCast]; exact w32s_set) (by rw [w32s_length]; show 8 < 26; decide) ?_
  refine .nil (TQ.then (.seq (.region (.v (.field fo_116_2_WRefMac rfl) (.v (.load isAgg2 rfl .tk (by rfl)) ?_)))))
  refine .v (show Val _ _ _ _ (.int .u64 (n.toNat : Int)) from by rw [show (n.toNat : Int) = n % 18446744073709551616 by omega]; exact Val.conv_i64_u64 underlying2 underlying171 rfl) ?_
  refine .v (.conv_u64_32 underlying171 underlying23 rfl) ?_
  refine .v (.ixArr1 underlying120 sizeOf23 rfl rfl (by omega)) ?_
  refine .storeTo (new := w32s (((st.ws ++ List.replicate 18 0).set 8 (hiW n.toNat)).set 9 (loW n.toNat))) sizeOf23 rfl rfl rfl .up (by rw [BitVec.ofInt_natCast]; exact w32s_set) (by rw [w32s_length]; show 9 < 26; decide) ?_
  refine .nil (TQ.then (.seq (.seq ?_)))
  rw [show ((st.ws ++ List.replicate 18 (0 : W)).set 8 (hiW n.toNat)).set 9 (loW n.toNat) = st.ws ++ [hiW n.toNat, loW n.toNat] ++ ws.take 0 ++ List.replicate (16 - 0) 0 from rfl]
  refine .region (.v (.assign rfl) (.nil (TQ.then (.block (.loop (X := {i : Nat // i ≤ ws.length}) (s0 := [(1, _), (2, _), (3, _)]) (fun x => [(5, i64 x.1)]) (fun x => [.row b3 (w32s (st.ws ++ [hiW n.toNat, loW n.toNat] ++ ws.take x.1 ++ List.replicate (16 - x.1) 0)) 120]) (fun x => ws.length - x.1) ⟨0, Nat.zero_le _⟩ .st .pk (fun x => ?_))))))
  refine .seq (.seq (.region (.v (.move rfl) (.v (.field fo_116_1_WRefMac rfl) (.v (.load isAgg31 rfl .tk (by rfl)) ?_)))))
  refine .v (.lenS underlying31 rfl hS) ?_
  refine .v (.lss rfl rfl) (.nil (TQ.then ?_))
  first | refine .cond_dec rfl (fun h2 => ?_) (fun h2 => ?_) | refine .cond rfl (fun h2 => ?_) (fun h2 => ?_)
  ·
   obtain ⟨i, hi⟩ := x
   dsimp only at hi h2 ⊢
   have hlt : i < ws.length := by omega
   refine .openRd (A := GSl 23 1 v ws.length (w32s ws)) (v := v) .tk Rd.gsl (fun hv3 hv4 => ?_) (fun g off cp hv3 hcp => ?_)
   ·
    exfalso; have h0 : ws.length = 0 := by have h := congrArg List.length hv4; rwa [w32s_length] at h
    omega
   have hR : Rd (GSl 23 1 v ws.length (w32s ws)) v (w32s ws) := Rd.gsl
   subst hv3
   rw [w32s_length] at hcp
   refine .skip (TQ.then (.seq (.block (.region (.v (.move rfl) (.v (.add64 rfl rfl (by omega)) ?_))))))
   refine .v (.field fo_116_1_WRefMac rfl) (.v (.load isAgg31 rfl .tk (by rfl)) ?_)
   refine .v (.move rfl) (.v (.ixSlice1 underlying31 sizeOf23 rfl rfl (by rw [w32s_length]; omega)) ?_)
   refine .v (.loadRd (i := i) isAgg23 rfl .tk hR (w32s_get (wAt_get hlt)) (by omega)) ?_
   refine .v (.ixArr1 underlying120 sizeOf23 rfl rfl (by omega)) ?_
   refine .storeTo (new := w32s (st.ws ++ [hiW n.toNat, loW n.toNat] ++ ws.take (i + 1) ++ List.replicate (16 - (i + 1)) 0)) sizeOf23 rfl rfl rfl .up (by rw [show 0 + (10 + (i : Int)).toNat = 10 + i by omega, ← fill16 hlt hw]; exact w32s_set) (by rw [w32s_length]; simp; omega) ?_
   refine .nil (.blk_normal (TQ.then (.region (.v (.move rfl) (.v (.add64 rfl rfl (by omega)) ?_)))))
   refine .v (.assign rfl) (.nil ?_)
   exact .next ⟨i + 1, by omega⟩ (by dsimp only; omega) .st .en
  ·
   obtain ⟨i, hi⟩ := x
   dsimp only at hi h2 ⊢
   obtain rfl : i = ws.length := by omega
   rw [List.take_of_length_le (Nat.le_refl _), show st.ws ++ [hiW n.toNat, loW n.toNat] ++ ws ++ List.replicate (16 - ws.length) (0 : W) = Dig.save ⟨st, n, ws⟩ from rfl]
   refine .exit (.then_exit (.then_exit (.blk_hit (TQ.then (.seq (.region (.v (.loadAgg (vs := w32s (Dig.save ⟨st, n, ws⟩)) isAgg120 sizeOf120 rfl .tk (words_whole hsl) (w32s_length.trans hsl)) ?_)))))))
   refine .storeAll (us := w32s (Dig.save ⟨st, n, ws⟩)) (vs := w32s (List.replicate 26 0)) sizeOf120 rfl rfl w32s_cells (w32s_length.trans hsl) .up (by rw [w32s_length, List.length_replicate]) ?_
   refine .nil (TQ.then (.ret ?_))
   exact .ret results69 (.agg (us := w32s (Dig.save ⟨st, n, ws⟩)) isAgg120 sizeOf120 rfl .tk (words_whole hsl) (w32s_length.trans hsl) .nil) () rfl trivial .en
end Go.Wd
