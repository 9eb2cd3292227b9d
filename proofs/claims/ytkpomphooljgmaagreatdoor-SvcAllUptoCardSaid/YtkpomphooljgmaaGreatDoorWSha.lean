/- PROVED HERE: contracts of functions of the program, walked: each returns what the plain model says, for all items that its precondition names. No condition beyond each theorem's own. -/
import Derived.Test.YtkpomphooljgmaaGreatDoorProg
import Derived.Test.YtkpomphooljgmaaGreatDoorModel
import Derived.Test.YtkpomphooljgmaaGreatDoorPk
import Derived.Test.YtkpomphooljgmaaGreatDoorMSha
import Derived.Test.YtkpomphooljgmaaGreatDoorBase6
namespace Go.Wd
open Go Go.Proofs Go.Proofs.Tryz
set_option maxHeartbeats 400000 in
theorem S_math_bits_RotateLeft32 {x : W} {n : Nat} (hn : 1 ≤ n ∧ n ≤ 31) : Spec prog 156 [w32 x, i64 (-(n : Int))].toArray [] (fun _ : Unit => True) (fun _ => w32 (rotr x n)) (fun _ => []) := by
 refine Spec.body func156 rfl ntmps156 rfl (fun σ R => ?_)
 refine .seq (.region (.v (.assign (v := w32 0#32) rfl) (.nil (TQ.then (.seq (.region (.v (.move rfl) (.v (.conv_i64_u64 underlying3 underlying172 rfl) ?_))))))))
 refine .v (.and31 rfl rfl (by omega)) ?_
 refine .v (.assign rfl) (.nil (TQ.then (.seq (.region (.v (.move rfl) (.v (.move rfl) (.v (.shl32j rfl rfl (by omega)) ?_)))))))
 refine .v (.move rfl) (.v (.move rfl) (.v (.subU64 rfl rfl (by omega)) ?_))
 refine .v (.shr32j rfl rfl (by omega)) ?_
 refine .v (.or32 rfl rfl) (.v (.assign rfl) (.nil (TQ.then (.ret ?_))))
 exact .ret results156 (.tmp rfl .nil) () (congrArg w32 (by rw [rotr, BitVec.or_comm]; congr 2 <;> omega)) trivial .en

set_option maxHeartbeats 400000 in
theorem S_sha_right {x : W} {n : Nat} (hn : 1 ≤ n ∧ n ≤ 31) : Spec prog 128 [w32 x, i64 (n : Int)].toArray [] (fun _ : Unit => True) (fun _ => w32 (rotr x n)) (fun _ => []) := by
 refine Spec.body func128 rfl ntmps128 rfl (fun σ R => ?_)
 refine .seq (.region (.v (.assign (v := w32 0#32) rfl) (.nil (TQ.then (.seq (.region (.v (.move rfl) (.v (.move rfl) (.v (.neg64 rfl (by omega)) ?_)))))))))
 refine .call call156 (S_math_bits_RotateLeft32 hn) rfl .pk rfl (fun x8 hx8 => ?_)
 refine .v (.assign rfl) (.nil (TQ.then (.ret ?_)))
 exact .ret results128 (.tmp rfl .nil) () (by first | rfl | simp [tup, *]) trivial .en

set_option maxHeartbeats 400000 in
theorem S_sha_schedule {b : List W} (hb : b.length = 16) : Spec prog 127 [.agg (w32s b).toArray].toArray [] (fun _ : Unit => True) (fun _ => .agg (w32s (sched b)).toArray) (fun _ => []) := by
 refine Spec.body func127 rfl ntmps127 rfl (fun σ R => ?_)
 refine .seq (.region (.box (vs := w32s _) rfl rfl rfl (fun b1 => ?_)))
 refine .alloc (zs := w32s (List.replicate 64 0)) zeroValue204 (by kernel_rfl) rfl (fun b2 => ?_)
 refine .nil (TQ.then (.seq (.region (.alloc (zs := w32s (List.replicate 64 0)) zeroValue204 (by kernel_rfl) rfl (fun b3 => ?_)))))
 refine .nil (TQ.then (.seq (.draw (H := []) (.q 0 (.q 1 (.e 2 .done))) (by kernel_rfl) .pk (by kernel_rfl) (by kernel_rfl) (by kernel_rfl) ?_)))
 refine .v rfl (.sliceArr underlying204 sizeOf23 rfl) ?_
 refine .v rfl (.sliceArr underlying170 sizeOf23 rfl) ?_
 refine .eff rfl (fun fu_ li_ hk_ hs_ hl_ => ?_)
 refine .copyRow (k := 16) (us := w32s b) (new := w32s (schedA b 16)) underlying31 sizeOf23 rfl rfl rfl .tk (words_whole hb) (w32s_length.trans hb) w32s_cells .up (by rw [schedA_16 hb, w32s_append]; rfl) (by rw [w32s_length, List.length_replicate]; omega) rfl rfl ?_
 refine .nil (TS.back hk_ hs_ hl_ .pk ?_)
 refine .done (TQ.then (.seq (.seq (.region (.v (.assign rfl) (.nil (TQ.then (.block (.loop (X := {t : Nat // 16 ≤ t ∧ t ≤ 64}) (s0 := [(2, _), (3, _)]) (fun x => [(4, i64 x.1)]) (fun x => [.row b3 (w32s (schedA b x.1)) 204]) (fun x => 64 - x.1) ⟨16, by omega⟩ .st .pk (fun x => ?_))))))))))
 refine .seq (.seq (.region (.v (.move rfl) (.v (.lss rfl rfl) (.nil (TQ.then ?_))))))
 first | refine .cond_dec rfl (fun h1 => ?_) (fun h1 => ?_) | refine .cond rfl (fun h1 => ?_) (fun h1 => ?_)
 ·
  obtain ⟨t, ht⟩ := x
  dsimp only at h1 ⊢
  have hlt : t < 64 := by omega
  refine .skip (TQ.then (.seq (.block (.seq (.draw (H := [.row b3 _ _]) (.q 0 (.q 1 (.q 2 (.q 3 (.q 4 (.q 5 (.q 6 (.q 7 (.q 8 (.q 9 .done)))))))))) (by kernel_rfl) .pk (by kernel_rfl) (by kernel_rfl) (by kernel_rfl) ?_)))))
  refine .v rfl (.move rfl) (.v rfl (.sub64 rfl rfl (by omega)) ?_)
  refine .v rfl (.ixArr1 underlying204 sizeOf23 rfl rfl (by omega)) ?_
  refine .v rfl (.load isAgg23 rfl .tk (w32s_get (by rw [show 0 + ((t : Int) - 15 : Int).toNat = t - 15 by omega]; exact wAt_get (by rw [schedA_len (by omega)]; omega)))) ?_
  refine .v rfl (.move rfl) (.v rfl (.sub64 rfl rfl (by omega)) ?_)
  refine .v rfl (.ixArr1 underlying204 sizeOf23 rfl rfl (by omega)) ?_
  refine .v rfl (.load isAgg23 rfl .tk (w32s_get (by rw [show 0 + ((t : Int) - 2 : Int).toNat = t - 2 by omega]; exact wAt_get (by rw [schedA_len (by omega)]; omega)))) ?_
  refine .v rfl (.assign rfl) (.v rfl (.assign rfl) (.done (TQ.then ?_)))
  refine .drawK (H := [.ex fun v : W => .row b3 (w32s ((schedA b t).set t v)) 204]) (.q 0 (.q 1 (.q 2 (.q 3 (.q 4 (.q 5 (.q 7 (.q 10 (.q 11 (.q 14 (.q 15 (.q 16 (.q 17 (.q 19 (.q 21 (.q 24 (.q 25 (.e 6 (.e 8 (.q 9 (.q 12 (.q 13 (.q 18 (.e 20 (.e 22 (.q 23 (.q 26 (.q 27 (.q 28 (.e 29 .done)))))))))))))))))))))))))))))) (by kernel_rfl) (Knows.exRow (wAt (schedA b t) t) .tk (by rw [set_wAt (by rw [schedA_len (by omega)]; omega)])) (by kernel_rfl) (by kernel_rfl) (by kernel_rfl) ?_
  refine .v rfl (.move rfl) (.v rfl (.move rfl) (.v rfl (.sub64 rfl rfl (by omega)) ?_))
  refine .v rfl (.ixArr1 underlying204 sizeOf23 rfl rfl (by omega)) ?_
  refine .v rfl (.loadEx isAgg23 rfl .tk (fun y => w32s_get (by rw [show 0 + ((t : Int) - 16 : Int).toNat = t - 16 by omega]; exact (wAt_get (by rw [List.length_set, schedA_len (by omega)]; omega)).trans (congrArg some (wAt_set (by omega)))))) ?_
  refine .v rfl (.move rfl) (.v rfl (.move rfl) (.v rfl (.move rfl) (.v rfl (.shr32 (k := 3) (by decide) rfl rfl) ?_)))
  refine .v rfl (.move rfl) (.v rfl (.sub64 rfl rfl (by omega)) ?_)
  refine .v rfl (.ixArr1 underlying204 sizeOf23 rfl rfl (by omega)) ?_
  refine .v rfl (.loadEx isAgg23 rfl .tk (fun y => w32s_get (by rw [show 0 + ((t : Int) - 7 : Int).toNat = t - 7 by omega]; exact (wAt_get (by rw [List.length_set, schedA_len (by omega)]; omega)).trans (congrArg some (wAt_set (by omega)))))) ?_
  refine .v rfl (.move rfl) (.v rfl (.move rfl) (.v rfl (.move rfl) (.v rfl (.shr32 (k := 10) (by decide) rfl rfl) ?_)))
  refine .eff rfl (fun fu_ li_ hk_ hs_ hl_ => ?_)
  refine .call call128 (S_sha_right (n := 7) (by omega)) rfl .pk rfl (fun x28 hx28 => ?_)
  refine .nil ?_
  refine TS.backK hk_ hs_ hl_ (by first | (refine Knows.exRow (wAt (schedA b t) t) .tk ?_; rw [set_wAt (by rw [schedA_len (by omega)]; omega)]; done) | exact Knows.exRow _ .tk rfl) ?_
  refine .eff rfl (fun fu_ li_ hk_ hs_ hl_ => ?_)
  refine .call call128 (S_sha_right (n := 18) (by omega)) rfl .pk rfl (fun x30 hx30 => ?_)
  refine .nil ?_
  refine TS.backK hk_ hs_ hl_ (by first | (refine Knows.exRow (wAt (schedA b t) t) .tk ?_; rw [set_wAt (by rw [schedA_len (by omega)]; omega)]; done) | exact Knows.exRow _ .tk rfl) ?_
  refine .v rfl (.xor32 rfl rfl) (.v rfl (.xor32 rfl rfl) (.v rfl (.add32 rfl rfl) (.v rfl (.add32 rfl rfl) (.eff rfl (fun fu_ li_ hk_ hs_ hl_ => ?_)))))
  refine .call call128 (S_sha_right (n := 17) (by omega)) rfl .pk rfl (fun x42 hx42 => ?_)
  refine .nil ?_
  refine TS.backK hk_ hs_ hl_ (by first | (refine Knows.exRow (wAt (schedA b t) t) .tk ?_; rw [set_wAt (by rw [schedA_len (by omega)]; omega)]; done) | exact Knows.exRow _ .tk rfl) ?_
  refine .eff rfl (fun fu_ li_ hk_ hs_ hl_ => ?_)
  refine .call call128 (S_sha_right (n := 19) (by omega)) rfl .pk rfl (fun x44 hx44 => ?_)
  refine .nil ?_
  refine TS.backK hk_ hs_ hl_ (by first | (refine Knows.exRow (wAt (schedA b t) t) .tk ?_; rw [set_wAt (by rw [schedA_len (by omega)]; omega)]; done) | exact Knows.exRow _ .tk rfl) ?_
  refine .v rfl (.xor32 rfl rfl) (.v rfl (.xor32 rfl rfl) (.v rfl (.add32 rfl rfl) (.v rfl (.ixArr1 underlying204 sizeOf23 rfl rfl (by omega)) ?_)))
  refine .eff rfl (fun fu_ li_ hk_ hs_ hl_ => ?_)
  refine .storeTo (new := w32s ((schedA b t).set t _)) sizeOf23 rfl rfl rfl .up (by rw [show 0 + ((t : Nat) : Int).toNat = t by omega]; exact w32s_set) (by rw [w32s_length, schedA_len (by omega)]; omega) ?_
  refine .nil ?_
  refine TS.backK hk_ hs_ hl_ (by first | (refine Knows.exRow (wAt (schedA b t) t) .tk ?_; rw [set_wAt (by rw [schedA_len (by omega)]; omega)]; done) | exact Knows.exRow _ .tk rfl) ?_
  refine .done (.blk_normal (TQ.then (.region (.v (.move rfl) (.v (.add64 rfl rfl (by omega)) ?_)))))
  refine .v (.assign rfl) (.nil ?_)
  rw [schedA_set hlt (by rw [schedNext, if_neg (by rw [schedL_len]; omega), schedL_len, schedA_at (by omega), schedA_at (by omega), schedA_at (by omega), schedA_at (by omega)])]
  exact .next ⟨t + 1, by omega⟩ (by dsimp only; omega) .st .en
 ·
  refine .exit (.then_exit (.then_exit (.blk_hit (TQ.then (.seq ?_)))))
  obtain ⟨t, ht⟩ := x
  obtain rfl : t = 64 := by dsimp only at h1; omega
  dsimp only
  rw [schedA_64]
  have hls : (sched b).length = 64 := schedL_len
  refine .region (.v (.loadAgg (vs := w32s _) isAgg204 sizeOf204 rfl .tk (words_whole (by assumption)) (by rw [w32s_length]; assumption)) ?_)
  refine .storeAll (us := w32s _) sizeOf204 rfl rfl w32s_cells (by rw [w32s_length]; assumption) .up (by rw [w32s_length]; first | rfl | assumption | simp) ?_
  refine .nil (TQ.then (.ret (.ret results127 (.agg (us := w32s (sched b)) isAgg204 sizeOf204 rfl .tk (words_whole hls) (w32s_length.trans hls) .nil) () rfl trivial .en)))

set_option maxHeartbeats 2000000 in
theorem S_sha_Block {AK0 : Assn} {s : S8} {b : List W} (hb : b.length = 16) (hK0 : Tab AK0 0 := by assumption) : Spec prog 96 [s.val, .agg (w32s b).toArray].toArray [AK0] (fun _ : Unit => True) (fun _ => (s.block b).val) (fun _ => [AK0]) := by
 refine Spec.body func96 rfl ntmps96 rfl (fun σ R => ?_)
 refine .seq (.region (.box (vs := [_, _, _, _, _, _, _, _]) rfl rfl rfl (fun b2 => ?_)))
 refine .box (vs := w32s _) rfl rfl rfl (fun b3 => ?_)
 refine .alloc zeroValue24 rfl rfl (fun b4 => ?_)
 refine .nil (TQ.then (.seq (.region (.v (.loadAgg (vs := [_, _, _, _, _, _, _, _]) isAgg24 sizeOf24 rfl .tk (by rfl) (by rfl)) ?_))))
 refine .alloc zeroValue24 rfl rfl (fun b5 => ?_)
 refine .storeAll (us := [_, _, _, _, _, _, _, _]) sizeOf24 rfl rfl rfl rfl .up rfl ?_
 refine .nil (TQ.then (.seq (.seq ?_)))
 have hls : (sched b).length = 64 := schedL_len
 refine .region (.v (.loadAgg (vs := w32s _) isAgg170 sizeOf170 rfl .tk (words_whole (by exact hb)) (by rw [w32s_length]; exact hb)) ?_)
 refine .call call127 (S_sha_schedule hb) rfl .pk rfl (fun x15 hx15 => ?_)
 refine .v (.move rfl) (.nil (TQ.then (.block (.loop (X := {t : Nat // t ≤ 64}) (s0 := [(2, _), (4, _), (5, _), (15, _)]) (fun x => [(16, i64 x.1)]) (fun x => [.row b5 (w32s (s.rounds b x.1).ws) 24]) (fun x => 64 - x.1) ⟨0, by omega⟩ .st .pk (fun x => ?_)))))
 refine .seq (.region (.v (.lss rfl rfl) (.nil (TQ.then (.seq ?_)))))
 first | refine .cond_dec rfl (fun h1 => ?_) (fun h1 => ?_) | refine .cond rfl (fun h1 => ?_) (fun h1 => ?_)
 ·
  obtain ⟨t, ht⟩ := x
  dsimp only at h1 ⊢
  have hlt : t < 64 := by omega
  obtain ⟨r, hr⟩ : ∃ r, s.rounds b t = r := ⟨_, rfl⟩
  rw [hr]
  refine .skip (TQ.then (.seq (.block (.seq (.region (.v (.move rfl) ?_))))))
  refine .v (.index (v := w32 (wAt (sched b) t)) underlying204 sizeOf23 isAgg23 rfl rfl (by omega) (w32s_get (by first | exact wAt_get (by omega) | (rw [show ((t : Nat) : Int).toNat * 1 = t by omega]; exact wAt_get (by omega))))) ?_
  refine .v (.assign rfl) (.v (.assign rfl) (.nil (TQ.then (.seq (.draw (H := [.row b5 _ _]) (.q 0 (.q 1 (.q 2 (.q 3 (.q 4 (.q 5 .done)))))) (by kernel_rfl) .pk (by kernel_rfl) (by kernel_rfl) (by kernel_rfl) ?_)))))
  refine .v rfl (.ixArr1 underlying24 sizeOf23 rfl rfl (by omega)) ?_
  refine .v rfl (.load isAgg23 rfl .tk (by rfl)) ?_
  refine .v rfl (.ixArr1 underlying24 sizeOf23 rfl rfl (by omega)) ?_
  refine .v rfl (.load isAgg23 rfl .tk (by rfl)) ?_
  refine .v rfl (.assign rfl) (.v rfl (.assign rfl) (.done (TQ.then (.seq (.draw (H := [.row b5 _ _, AK0]) (.q 0 (.q 1 (.q 2 (.q 4 (.q 7 (.q 11 (.q 12 (.q 13 (.q 14 (.q 15 (.q 16 (.q 17 (.q 18 (.q 19 (.q 20 (.q 22 (.q 23 (.q 24 (.q 26 (.e 3 (.e 5 (.q 6 (.e 8 (.q 9 (.q 10 (.q 21 (.q 25 (.q 27 (.q 28 .done))))))))))))))))))))))))))))) (by kernel_rfl) .pk (by kernel_rfl) (by kernel_rfl) (by kernel_rfl) ?_)))))
  refine .v rfl (.ixArr1 underlying24 sizeOf23 rfl rfl (by omega)) ?_
  refine .v rfl (.load isAgg23 rfl .tk (by rfl)) ?_
  refine .v rfl (.move rfl) (.v rfl (.move rfl) (.v rfl (.move rfl) (.v rfl (.move rfl) (.v rfl (.ixArr1 underlying24 sizeOf23 rfl rfl (by omega)) ?_))))
  refine .v rfl (.load isAgg23 rfl .tk (by rfl)) ?_
  refine .v rfl (.and32 rfl rfl) (.v rfl (.move rfl) (.v rfl (.not32 rfl) (.v rfl (.ixArr1 underlying24 sizeOf23 rfl rfl (by omega)) ?_)))
  refine .v rfl (.load isAgg23 rfl .tk (by rfl)) ?_
  refine .v rfl (.and32 rfl rfl) (.v rfl (.xor32 rfl rfl) (.v rfl (.move rfl) (.v rfl (.ixArr1 underlying204 sizeOf23 rfl rfl (by omega)) ?_)))
  refine .v rfl (.loadC (A := AK0) isAgg23 rfl .tk (fun w hw => (by rw [show 0 + ((t : Nat) : Int).toNat = t by omega]; exact hK0 w hw t hlt))) ?_
  refine .v rfl (.move rfl) (.eff rfl (fun fu_ li_ hk_ hs_ hl_ => ?_))
  refine .call call128 (S_sha_right (n := 6) (by omega)) rfl .pk rfl (fun x27 hx27 => ?_)
  refine .nil (TS.back hk_ hs_ hl_ .pk ?_)
  refine .eff rfl (fun fu_ li_ hk_ hs_ hl_ => ?_)
  refine .call call128 (S_sha_right (n := 11) (by omega)) rfl .pk rfl (fun x29 hx29 => ?_)
  refine .nil (TS.back hk_ hs_ hl_ .pk ?_)
  refine .v rfl (.xor32 rfl rfl) (.eff rfl (fun fu_ li_ hk_ hs_ hl_ => ?_))
  refine .call call128 (S_sha_right (n := 25) (by omega)) rfl .pk rfl (fun x32 hx32 => ?_)
  refine .nil (TS.back hk_ hs_ hl_ .pk ?_)
  refine .v rfl (.xor32 rfl rfl) (.v rfl (.add32 rfl rfl) (.v rfl (.add32 rfl rfl) (.v rfl (.add32 rfl rfl) (.v rfl (.add32 rfl rfl) (.v rfl (.assign (v := w32 (r.t1 (wAt KK t) (wAt (sched b) t))) rfl) ?_)))))
  refine .done (TQ.then (.seq (.draw (H := [.row b5 _ _]) (.q 0 (.q 2 (.q 5 (.q 8 (.q 9 (.q 10 (.q 11 (.q 12 (.q 13 (.q 14 (.q 15 (.q 16 (.q 17 (.q 18 (.q 19 (.q 20 (.q 21 (.q 22 (.e 1 (.e 3 (.q 4 (.e 6 (.q 7 (.q 23 (.q 24 .done))))))))))))))))))))))))) (by kernel_rfl) .pk (by kernel_rfl) (by kernel_rfl) (by kernel_rfl) ?_)))
  refine .v rfl (.move rfl) (.v rfl (.move rfl) (.v rfl (.move rfl) (.v rfl (.move rfl) (.v rfl (.ixArr1 underlying24 sizeOf23 rfl rfl (by omega)) ?_))))
  refine .v rfl (.load isAgg23 rfl .tk (by rfl)) ?_
  refine .v rfl (.and32 rfl rfl) (.v rfl (.move rfl) (.v rfl (.ixArr1 underlying24 sizeOf23 rfl rfl (by omega)) ?_))
  refine .v rfl (.load isAgg23 rfl .tk (by rfl)) ?_
  refine .v rfl (.and32 rfl rfl) (.v rfl (.xor32 rfl rfl) (.v rfl (.ixArr1 underlying24 sizeOf23 rfl rfl (by omega)) ?_))
  refine .v rfl (.load isAgg23 rfl .tk (by rfl)) ?_
  refine .v rfl (.ixArr1 underlying24 sizeOf23 rfl rfl (by omega)) ?_
  refine .v rfl (.load isAgg23 rfl .tk (by rfl)) ?_
  refine .v rfl (.and32 rfl rfl) (.v rfl (.xor32 rfl rfl) (.eff rfl (fun fu_ li_ hk_ hs_ hl_ => ?_)))
  refine .call call128 (S_sha_right (n := 2) (by omega)) rfl .pk rfl (fun x53 hx53 => ?_)
  refine .nil (TS.back hk_ hs_ hl_ .pk ?_)
  refine .eff rfl (fun fu_ li_ hk_ hs_ hl_ => ?_)
  refine .call call128 (S_sha_right (n := 13) (by omega)) rfl .pk rfl (fun x55 hx55 => ?_)
  refine .nil (TS.back hk_ hs_ hl_ .pk ?_)
  refine .v rfl (.xor32 rfl rfl) (.eff rfl (fun fu_ li_ hk_ hs_ hl_ => ?_))
  refine .call call128 (S_sha_right (n := 22) (by omega)) rfl .pk rfl (fun x58 hx58 => ?_)
  refine .nil (TS.back hk_ hs_ hl_ .pk ?_)
  refine .v rfl (.xor32 rfl rfl) (.v rfl (.add32 rfl rfl) (.v rfl (.assign (v := w32 r.t2) rfl) (.done (TQ.then (.region (.v (.move rfl) (.v (.move rfl) (.v (.add32 rfl rfl) (.v (.ixArr1 underlying24 sizeOf23 rfl rfl (by omega)) ?_)))))))))
  refine .v (.load isAgg23 rfl .tk (by rfl)) ?_
  refine .v (.ixArr1 underlying24 sizeOf23 rfl rfl (by omega)) ?_
  refine .v (.load isAgg23 rfl .tk (by rfl)) ?_
  refine .v (.ixArr1 underlying24 sizeOf23 rfl rfl (by omega)) ?_
  refine .v (.load isAgg23 rfl .tk (by rfl)) ?_
  refine .v (.ixArr1 underlying24 sizeOf23 rfl rfl (by omega)) ?_
  refine .v (.load isAgg23 rfl .tk (by rfl)) ?_
  refine .v (.move rfl) (.v (.add32 rfl rfl) (.v (.ixArr1 underlying24 sizeOf23 rfl rfl (by omega)) ?_))
  refine .v (.load isAgg23 rfl .tk (by rfl)) ?_
  refine .v (.ixArr1 underlying24 sizeOf23 rfl rfl (by omega)) ?_
  refine .v (.load isAgg23 rfl .tk (by rfl)) ?_
  refine .v (.ixArr1 underlying24 sizeOf23 rfl rfl (by omega)) ?_
  refine .v (.load isAgg23 rfl .tk (by rfl)) ?_
  refine .v (.buildCells (zs := [.int .u32 0, .int .u32 0, .int .u32 0, .int .u32 0, .int .u32 0, .int .u32 0, .int .u32 0, .int .u32 0]) (cs := [_, _, _, _, _, _, _, _]) zeroValue24 rfl underlying24 sizeOf23 (.cons rfl (.cons rfl (.cons rfl (.cons rfl (.cons rfl (.cons rfl (.cons rfl (.cons rfl .nil)))))))) rfl rfl) ?_
  refine .storeAll (us := w32s (r.round (wAt KK t) (wAt (sched b) t)).ws) sizeOf24 rfl rfl rfl rfl .up rfl ?_
  refine .nil (.blk_normal (TQ.then (.region (.v (.add64 rfl rfl (by omega)) ?_))))
  refine .v (.move rfl) (.nil ?_)
  rw [show r.round (wAt KK t) (wAt (sched b) t) = s.rounds b (t + 1) from by rw [S8.rounds, hr]]
  exact .next ⟨t + 1, by omega⟩ (by dsimp only; omega) .st .en
 ·
  refine .exit (.then_exit (.then_exit (.blk_hit (TQ.then (.seq (.seq ?_))))))
  obtain ⟨t, ht⟩ := x
  obtain rfl : t = 64 := by dsimp only at h1; omega
  dsimp only
  obtain ⟨r, hr⟩ : ∃ r, s.rounds b 64 = r := ⟨_, rfl⟩
  rw [hr]
  have hz : ∀ i, (addUp r.ws s.ws i).length = 8 := fun i => addUp_len rfl
  rw [show w32s r.ws = w32s (addUp r.ws s.ws 0) from rfl]
  refine .region (.v (.move rfl) (.nil (TQ.then (.block (.loop (X := {i : Nat // i ≤ 8}) (s0 := [(2, _), (4, _), (5, _)]) (fun y => [(97, i64 y.1)]) (fun y => [.row b5 (w32s (addUp r.ws s.ws y.1)) 24]) (fun y => 8 - y.1) ⟨0, by omega⟩ .st .pk (fun y => ?_))))))
  refine .seq (.region (.v (.lss rfl rfl) (.nil (TQ.then (.seq ?_)))))
  first | refine .cond_dec rfl (fun h2 => ?_) (fun h2 => ?_) | refine .cond rfl (fun h2 => ?_) (fun h2 => ?_)
  ·
   obtain ⟨i, hi⟩ := y
   dsimp only at h2 ⊢
   have hlt : i < 8 := by omega
   refine .skip (TQ.then (.seq (.block (.seq (.region (.v (.move rfl) (.v (.assign rfl) (.nil (TQ.then (.draw (H := []) (.q 0 (.q 1 (.q 3 (.q 4 (.b 2 (.e 5 (.q 6 (.q 7 (.e 8 .done)))) 5 (.e 2 (.q 6 (.q 7 (.e 8 .done))))))))) (by kernel_rfl) .pk (by kernel_rfl) (by kernel_rfl) (by kernel_rfl) ?_))))))))))
   refine .v rfl (.move rfl) (.v rfl (.ixArr1 underlying24 sizeOf23 rfl rfl (by omega)) ?_)
   refine .v rfl (.move rfl) (.v rfl (.ixArr1 underlying24 sizeOf23 rfl rfl (by omega)) ?_)
   refine .both rfl rfl (fun fu_ li_ hk_ hs_ hl_ => ?_) (fun fu_ li_ hk_ hs_ hl_ => ?_)
   ·
    refine .v (.load isAgg23 rfl .tk (w32s_get (by rw [show 0 + ((i : Nat) : Int).toNat = i by omega]; exact wAt_get (by rw [hz]; omega)))) ?_
    refine .nil (TS.back hk_ hs_ hl_ .pk ?_)
    refine .eff rfl (fun fu_ li_ hk_ hs_ hl_ => ?_)
    refine .v (.load isAgg23 rfl .tk (w32s_get (g := s.ws) (by rw [show 0 + ((i : Nat) : Int).toNat = i by omega]; exact wAt_get hlt))) ?_
    refine .nil (TS.back hk_ hs_ hl_ .pk ?_)
    refine .v rfl (.add32 rfl rfl) (.v rfl (.ixArr1 underlying24 sizeOf23 rfl rfl (by omega)) ?_)
    refine .eff rfl (fun fu_ li_ hk_ hs_ hl_ => ?_)
    refine .storeTo (new := w32s (addUp r.ws s.ws (i + 1))) sizeOf23 rfl rfl rfl .up (by rw [show 0 + ((i : Nat) : Int).toNat = i by omega, ← addUp_set (a := r.ws) (b := s.ws) (i := i) hlt rfl]; exact w32s_set) (by rw [w32s_length, hz]; omega) ?_
    refine .nil (TS.back hk_ hs_ hl_ .pk ?_)
    refine .done (.blk_normal (TQ.then (.region (.v (.add64 rfl rfl (by omega)) ?_))))
    refine .v (.move rfl) (.nil ?_)
    exact .next ⟨i + 1, by omega⟩ (by dsimp only; omega) .st .en
   ·
    refine .v (.load isAgg23 rfl .tk (w32s_get (g := s.ws) (by rw [show 0 + ((i : Nat) : Int).toNat = i by omega]; exact wAt_get hlt))) ?_
    refine .nil (TS.back hk_ hs_ hl_ .pk ?_)
    refine .eff rfl (fun fu_ li_ hk_ hs_ hl_ => ?_)
    refine .v (.load isAgg23 rfl .tk (w32s_get (by rw [show 0 + ((i : Nat) : Int).toNat = i by omega]; exact wAt_get (by rw [hz]; omega)))) ?_
    refine .nil (TS.back hk_ hs_ hl_ .pk ?_)
    refine .v rfl (.add32 rfl rfl) (.v rfl (.ixArr1 underlying24 sizeOf23 rfl rfl (by omega)) ?_)
    refine .eff rfl (fun fu_ li_ hk_ hs_ hl_ => ?_)
    refine .storeTo (new := w32s (addUp r.ws s.ws (i + 1))) sizeOf23 rfl rfl rfl .up (by rw [show 0 + ((i : Nat) : Int).toNat = i by omega, ← addUp_set (a := r.ws) (b := s.ws) (i := i) hlt rfl]; exact w32s_set) (by rw [w32s_length, hz]; omega) ?_
    refine .nil (TS.back hk_ hs_ hl_ .pk ?_)
    refine .done (.blk_normal (TQ.then (.region (.v (.add64 rfl rfl (by omega)) ?_))))
    refine .v (.move rfl) (.nil ?_)
    exact .next ⟨i + 1, by omega⟩ (by dsimp only; omega) .st .en
  ·
   refine .exit (.then_exit (.then_exit (.blk_hit (TQ.then (.seq ?_)))))
   obtain ⟨i, hi⟩ := y
   obtain rfl : i = 8 := by dsimp only at h2; omega
   dsimp only
   rw [addUp_all]
   refine .region (.v (.loadAgg (vs := [_, _, _, _, _, _, _, _]) isAgg24 sizeOf24 rfl .tk (by rfl) (by rfl)) ?_)
   refine .storeAll (us := [_, _, _, _, _, _, _, _]) sizeOf24 rfl rfl rfl rfl .up rfl ?_
   refine .nil (TQ.then (.ret ?_))
   exact .ret results96 (.agg isAgg24 sizeOf24 rfl .tk (by rfl) (by rfl) .nil) () (by rw [S8.block, hr]; rfl) trivial .en

set_option maxHeartbeats 400000 in
theorem S_sha_First  : Spec prog 94 [].toArray [] (fun _ : Unit => True) (fun _ => S8.first.val) (fun _ => []) := by
 refine Spec.body func94 rfl ntmps94 rfl (fun σ R => ?_)
 refine .seq (.region (.alloc zeroValue24 rfl rfl (fun b0 => ?_)))
 refine .nil (TQ.then (.seq (.region (.v (.buildCells (zs := [.int .u32 0, .int .u32 0, .int .u32 0, .int .u32 0, .int .u32 0, .int .u32 0, .int .u32 0, .int .u32 0]) (cs := [_, _, _, _, _, _, _, _]) zeroValue24 rfl underlying24 sizeOf23 (.cons rfl (.cons rfl (.cons rfl (.cons rfl (.cons rfl (.cons rfl (.cons rfl (.cons rfl .nil)))))))) rfl rfl) ?_))))
 refine .storeAll (us := [_, _, _, _, _, _, _, _]) sizeOf24 rfl rfl rfl rfl .up rfl ?_
 refine .nil (TQ.then (.ret ?_))
 exact .ret results94 (.agg isAgg24 sizeOf24 rfl .tk (by rfl) (by rfl) .nil) () (by first | rfl | simp [tup, *]) trivial .en

/-- a digest: its state, how many words, those that wait -/
abbrev DigR (d : Nat) (st : S8) (n : Int) (v : Value) : Assn := .row d [w32 st.a, w32 st.b, w32 st.c, w32 st.d, w32 st.e, w32 st.f, w32 st.g, w32 st.h, i64 n, v] 168

theorem pl_168_WSha : Places prog 168 [(0, 8), (8, 1), (9, 1)] := ⟨_, underlying168, fun w => by simp [sizeOf2, sizeOf24, sizeOf31]⟩
set_option maxHeartbeats 400000 in
theorem S_sha_New  : Spec prog 64 [].toArray [] (fun x : Nat => True) (fun x => ptr x) (fun x => [DigR x S8.first 0 (.slice none 0 0)]) := by
 refine Spec.body func64 rfl ntmps64 rfl (fun σ R => ?_)
 refine .seq (.region (.v (.assign rfl) (.nil (TQ.then (.seq (.region (.call call94 (S_sha_First) rfl .pk rfl (fun x1 hx1 => ?_))))))))
 refine .v (.buildS (zs := [.int .u32 0, .int .u32 0, .int .u32 0, .int .u32 0, .int .u32 0, .int .u32 0, .int .u32 0, .int .u32 0, .int .i64 0, .slice none 0 0]) (cs := [_, _, _, _, _, _, _, _, _, _]) zeroValue168 rfl pl_168_WSha (.cons (us := [_, _, _, _, _, _, _, _]) rfl rfl rfl rfl rfl (.nil rfl))) ?_
 refine .box (vs := [_, _, _, _, _, _, _, _, _, _]) rfl rfl rfl (fun b3 => ?_)
 refine .v (.assign rfl) (.nil (TQ.then (.ret ?_)))
 exact .ret results64 (.tmp rfl .nil) b3 (by first | rfl | simp [tup, *]) trivial .en
end Go.Wd
