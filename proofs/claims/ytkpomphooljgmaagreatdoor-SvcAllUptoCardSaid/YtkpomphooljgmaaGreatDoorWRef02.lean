/- PROVED HERE: contracts of functions of the program, walked: each returns what the plain model says, for all items that its precondition names. No condition beyond each theorem's own. -/
import Derived.Test.YtkpomphooljgmaaGreatDoorProg
import Derived.Test.YtkpomphooljgmaaGreatDoorModel
import Derived.Test.YtkpomphooljgmaaGreatDoorPk
import Derived.Test.YtkpomphooljgmaaGreatDoorMSha
import Derived.Test.YtkpomphooljgmaaGreatDoorBase6
import Derived.Test.YtkpomphooljgmaaGreatDoorBase7
namespace Go.Wd
open Go Go.Proofs Go.Proofs.Tryz
set_option maxHeartbeats 400000 in
theorem S_wardenref02_turn {x : W} {n : Nat} (hn : 1 ≤ n ∧ n ≤ 31) : Spec prog 129 [w32 x, .int .u64 (n : Int)].toArray [] (fun _ : Unit => True) (fun _ => w32 (rotr x n)) (fun _ => []) := by
 refine Spec.body func129 rfl ntmps129 rfl (fun σ R => ?_)
 refine .seq (.region (.v (.assign (v := w32 0#32) rfl) (.nil (TQ.then (.seq (.region (.v (.move rfl) (.v (.move rfl) (.v (.shr32j rfl rfl (by omega)) ?_)))))))))
 refine .v (.move rfl) (.v (.move rfl) (.v (.subU64 rfl rfl (by omega)) ?_))
 refine .v (.shl32j rfl rfl (by omega)) ?_
 refine .v (.or32 rfl rfl) (.v (.assign rfl) (.nil (TQ.then (.ret ?_))))
 exact .ret results129 (.tmp rfl .nil) () (congrArg w32 (by rw [rotr]; congr 2 <;> omega)) trivial .en

set_option maxHeartbeats 2000000 in
theorem S_wardenref02_Block {AK1 : Assn} {s : S8} {b : List W} (hb : b.length = 16) (hK1 : Tab AK1 1 := by assumption) : Spec prog 97 [s.val, .agg (w32s b).toArray].toArray [AK1] (fun _ : Unit => True) (fun _ => (s.block b).val) (fun _ => [AK1]) := by
 refine Spec.body func97 rfl ntmps97 rfl (fun σ R => ?_)
 refine .seq (.region (.box (vs := [_, _, _, _, _, _, _, _]) rfl rfl rfl (fun b2 => ?_)))
 refine .box (vs := w32s _) rfl rfl rfl (fun b3 => ?_)
 refine .alloc zeroValue24 rfl rfl (fun b4 => ?_)
 refine .nil (TQ.then (.seq (.region (.alloc (zs := w32s (List.replicate 64 0)) zeroValue204 (by kernel_rfl) rfl (fun b5 => ?_)))))
 refine .nil (TQ.then (.seq (.seq ?_)))
 rw [show w32s (List.replicate 64 0) = w32s (schedA b 0) from by simp [schedA, schedL]]
 refine .region (.v (.assign rfl) (.nil (TQ.then (.block (.loop (X := {t : Nat // t ≤ 64}) (s0 := [(2, _), (3, _), (4, _), (5, _)]) (fun x => [(6, i64 x.1)]) (fun x => [.row b5 (w32s (schedA b x.1)) 204]) (fun x => 64 - x.1) ⟨0, by omega⟩ .st .pk (fun x => ?_))))))
 refine .seq (.seq (.region (.v (.move rfl) (.v (.lss rfl rfl) (.nil (TQ.then ?_))))))
 first | refine .cond_dec rfl (fun h1 => ?_) (fun h1 => ?_) | refine .cond rfl (fun h1 => ?_) (fun h1 => ?_)
 ·
  obtain ⟨t, ht⟩ := x
  dsimp only at h1 ⊢
  have hlt : t < 64 := by omega
  refine .skip (TQ.then (.seq (.block (.seq (.seq (.region (.v (.move rfl) (.v (.lss rfl rfl) (.nil (TQ.then ?_))))))))))
  first | refine .cond_dec rfl (fun h2 => ?_) (fun h2 => ?_) | refine .cond rfl (fun h2 => ?_) (fun h2 => ?_)
  ·
   refine .seq (.region (.v (.move rfl) (.v (.move rfl) (.v (.ixArr1 underlying170 sizeOf23 rfl rfl (by omega)) ?_))))
   refine .v (.load isAgg23 rfl .tk (w32s_get (g := b) (by rw [show 0 + ((t : Nat) : Int).toNat = t by omega]; exact wAt_get (by omega)))) ?_
   refine .v (.ixArr1 underlying204 sizeOf23 rfl rfl (by omega)) ?_
   refine .storeTo (new := w32s ((schedA b t).set t _)) sizeOf23 rfl rfl rfl .up (by rw [show 0 + ((t : Nat) : Int).toNat = t by omega]; exact w32s_set) (by rw [w32s_length, schedA_len (by omega)]; omega) ?_
   refine .nil (TQ.then (.exit (.then_exit (.blk_hit (TQ.then (.region (.v (.move rfl) (.v (.add64 rfl rfl (by omega)) ?_))))))))
   refine .v (.assign rfl) (.nil ?_)
   rw [schedA_set hlt (by rw [schedNext, if_pos (by rw [schedL_len]; omega), schedL_len])]
   exact .next ⟨t + 1, by omega⟩ (by dsimp only; omega) .st .en
  ·
   refine .skip (TQ.then (.seq (.region (.v (.move rfl) (.v (.sub64 rfl rfl (by omega)) ?_)))))
   refine .v (.ixArr1 underlying204 sizeOf23 rfl rfl (by omega)) ?_
   refine .v (.load isAgg23 rfl .tk (w32s_get (by rw [show 0 + ((t : Int) - 15 : Int).toNat = t - 15 by omega]; exact wAt_get (by rw [schedA_len (by omega)]; omega)))) ?_
   refine .v (.assign rfl) (.nil (TQ.then (.seq (.region (.v (.move rfl) (.v (.sub64 rfl rfl (by omega)) ?_))))))
   refine .v (.ixArr1 underlying204 sizeOf23 rfl rfl (by omega)) ?_
   refine .v (.load isAgg23 rfl .tk (w32s_get (by rw [show 0 + ((t : Int) - 2 : Int).toNat = t - 2 by omega]; exact wAt_get (by rw [schedA_len (by omega)]; omega)))) ?_
   refine .v (.assign rfl) (.nil (TQ.then ?_))
   refine .drawK (H := [.ex fun v : W => .row b5 (w32s ((schedA b t).set t v)) 204]) (.q 0 (.q 1 (.q 3 (.q 6 (.q 7 (.q 9 (.q 10 (.q 11 (.q 12 (.q 14 (.q 16 (.q 19 (.q 20 (.q 23 (.q 24 (.q 25 (.q 26 (.e 2 (.e 4 (.q 5 (.q 8 (.q 13 (.e 15 (.e 17 (.q 18 (.q 21 (.q 22 (.q 27 (.q 28 (.e 29 .done)))))))))))))))))))))))))))))) (by kernel_rfl) (Knows.exRow (wAt (schedA b t) t) .tk (by rw [set_wAt (by rw [schedA_len (by omega)]; omega)])) (by kernel_rfl) (by kernel_rfl) (by kernel_rfl) ?_
   refine .v rfl (.move rfl) (.v rfl (.move rfl) (.v rfl (.move rfl) (.v rfl (.move rfl) (.v rfl (.shr32 (k := 10) (by decide) rfl rfl) ?_))))
   refine .v rfl (.move rfl) (.v rfl (.sub64 rfl rfl (by omega)) ?_)
   refine .v rfl (.ixArr1 underlying204 sizeOf23 rfl rfl (by omega)) ?_
   refine .v rfl (.loadEx isAgg23 rfl .tk (fun y => w32s_get (by rw [show 0 + ((t : Int) - 7 : Int).toNat = t - 7 by omega]; exact (wAt_get (by rw [List.length_set, schedA_len (by omega)]; omega)).trans (congrArg some (wAt_set (by omega)))))) ?_
   refine .v rfl (.move rfl) (.v rfl (.move rfl) (.v rfl (.move rfl) (.v rfl (.shr32 (k := 3) (by decide) rfl rfl) ?_)))
   refine .v rfl (.move rfl) (.v rfl (.sub64 rfl rfl (by omega)) ?_)
   refine .v rfl (.ixArr1 underlying204 sizeOf23 rfl rfl (by omega)) ?_
   refine .v rfl (.loadEx isAgg23 rfl .tk (fun y => w32s_get (by rw [show 0 + ((t : Int) - 16 : Int).toNat = t - 16 by omega]; exact (wAt_get (by rw [List.length_set, schedA_len (by omega)]; omega)).trans (congrArg some (wAt_set (by omega)))))) ?_
   refine .eff rfl (fun fu_ li_ hk_ hs_ hl_ => ?_)
   refine .call call129 (S_wardenref02_turn (n := 17) (by omega)) rfl .pk rfl (fun x37 hx37 => ?_)
   refine .nil ?_
   refine TS.backK hk_ hs_ hl_ (by first | (refine Knows.exRow (wAt (schedA b t) t) .tk ?_; rw [set_wAt (by rw [schedA_len (by omega)]; omega)]; done) | exact Knows.exRow _ .tk rfl) ?_
   refine .eff rfl (fun fu_ li_ hk_ hs_ hl_ => ?_)
   refine .call call129 (S_wardenref02_turn (n := 19) (by omega)) rfl .pk rfl (fun x39 hx39 => ?_)
   refine .nil ?_
   refine TS.backK hk_ hs_ hl_ (by first | (refine Knows.exRow (wAt (schedA b t) t) .tk ?_; rw [set_wAt (by rw [schedA_len (by omega)]; omega)]; done) | exact Knows.exRow _ .tk rfl) ?_
   refine .v rfl (.xor32 rfl rfl) (.v rfl (.xor32 rfl rfl) (.v rfl (.add32 rfl rfl) (.eff rfl (fun fu_ li_ hk_ hs_ hl_ => ?_))))
   refine .call call129 (S_wardenref02_turn (n := 7) (by omega)) rfl .pk rfl (fun x50 hx50 => ?_)
   refine .nil ?_
   refine TS.backK hk_ hs_ hl_ (by first | (refine Knows.exRow (wAt (schedA b t) t) .tk ?_; rw [set_wAt (by rw [schedA_len (by omega)]; omega)]; done) | exact Knows.exRow _ .tk rfl) ?_
   refine .eff rfl (fun fu_ li_ hk_ hs_ hl_ => ?_)
   refine .call call129 (S_wardenref02_turn (n := 18) (by omega)) rfl .pk rfl (fun x52 hx52 => ?_)
   refine .nil ?_
   refine TS.backK hk_ hs_ hl_ (by first | (refine Knows.exRow (wAt (schedA b t) t) .tk ?_; rw [set_wAt (by rw [schedA_len (by omega)]; omega)]; done) | exact Knows.exRow _ .tk rfl) ?_
   refine .v rfl (.xor32 rfl rfl) (.v rfl (.xor32 rfl rfl) (.v rfl (.add32 rfl rfl) (.v rfl (.add32 rfl rfl) (.v rfl (.ixArr1 underlying204 sizeOf23 rfl rfl (by omega)) ?_))))
   refine .eff rfl (fun fu_ li_ hk_ hs_ hl_ => ?_)
   refine .storeTo (new := w32s ((schedA b t).set t _)) sizeOf23 rfl rfl rfl .up (by rw [show 0 + ((t : Nat) : Int).toNat = t by omega]; exact w32s_set) (by rw [w32s_length, schedA_len (by omega)]; omega) ?_
   refine .nil ?_
   refine TS.backK hk_ hs_ hl_ (by first | (refine Knows.exRow (wAt (schedA b t) t) .tk ?_; rw [set_wAt (by rw [schedA_len (by omega)]; omega)]; done) | exact Knows.exRow _ .tk rfl) ?_
   refine .done (.blk_normal (TQ.then (.region (.v (.move rfl) (.v (.add64 rfl rfl (by omega)) ?_)))))
   refine .v (.assign rfl) (.nil ?_)
   rw [schedA_set hlt (by rw [schedNext, if_neg (by rw [schedL_len]; omega), schedL_len, schedA_at (by omega), schedA_at (by omega), schedA_at (by omega), schedA_at (by omega)]; ac_rfl)]
   exact .next ⟨t + 1, by omega⟩ (by dsimp only; omega) .st .en
 ·
  refine .exit (.then_exit (.then_exit (.blk_hit (TQ.then (.seq ?_)))))
  obtain ⟨t, ht⟩ := x
  obtain rfl : t = 64 := by dsimp only at h1; omega
  dsimp only
  rw [schedA_64]
  have hls : (sched b).length = 64 := schedL_len
  refine .region (.v (.loadAgg (vs := [_, _, _, _, _, _, _, _]) isAgg24 sizeOf24 rfl .tk (by rfl) (by rfl)) ?_)
  refine .alloc zeroValue24 rfl rfl (fun b9 => ?_)
  refine .storeAll (us := [_, _, _, _, _, _, _, _]) sizeOf24 rfl rfl rfl rfl .up rfl ?_
  refine .nil (TQ.then (.seq (.seq (.region (.v (.assign rfl) (.nil (TQ.then (.block (.loop (X := {t : Nat // t ≤ 64}) (s0 := [(2, _), (4, _), (5, _), (9, _)]) (fun z => [(10, i64 z.1)]) (fun z => [.row b9 (w32s (s.rounds b z.1).ws) 24]) (fun z => 64 - z.1) ⟨0, by omega⟩ .st .pk (fun z => ?_))))))))))
  refine .seq (.seq (.region (.v (.move rfl) (.v (.lss rfl rfl) (.nil (TQ.then ?_))))))
  first | refine .cond_dec rfl (fun h2 => ?_) (fun h2 => ?_) | refine .cond rfl (fun h2 => ?_) (fun h2 => ?_)
  ·
   obtain ⟨t, ht⟩ := z
   dsimp only at h2 ⊢
   have hlt : t < 64 := by omega
   obtain ⟨r, hr⟩ : ∃ r, s.rounds b t = r := ⟨_, rfl⟩
   rw [hr]
   refine .skip (TQ.then (.seq (.block (.seq (.region (.v (.ixArr1 underlying24 sizeOf23 rfl rfl (by omega)) ?_))))))
   refine .v (.load isAgg23 rfl .tk (by rfl)) ?_
   refine .v (.assign rfl) (.nil (TQ.then (.seq (.region (.v (.ixArr1 underlying24 sizeOf23 rfl rfl (by omega)) ?_)))))
   refine .v (.load isAgg23 rfl .tk (by rfl)) ?_
   refine .v (.assign rfl) (.nil (TQ.then (.seq (.draw (H := [.row b9 _ _, AK1, .row b5 _ _]) (.q 0 (.q 1 (.q 2 (.q 4 (.q 7 (.q 11 (.q 12 (.q 13 (.q 14 (.q 15 (.q 16 (.q 17 (.q 18 (.q 19 (.q 20 (.q 22 (.q 23 (.q 24 (.q 26 (.q 27 (.q 28 (.e 3 (.e 5 (.q 6 (.e 8 (.q 9 (.q 10 (.q 21 (.q 25 (.q 29 (.q 30 .done))))))))))))))))))))))))))))))) (by kernel_rfl) .pk (by kernel_rfl) (by kernel_rfl) (by kernel_rfl) ?_))))
   refine .v rfl (.ixArr1 underlying24 sizeOf23 rfl rfl (by omega)) ?_
   refine .v rfl (.load isAgg23 rfl .tk (by rfl)) ?_
   refine .v rfl (.move rfl) (.v rfl (.move rfl) (.v rfl (.move rfl) (.v rfl (.move rfl) (.v rfl (.ixArr1 underlying24 sizeOf23 rfl rfl (by omega)) ?_))))
   refine .v rfl (.load isAgg23 rfl .tk (by rfl)) ?_
   refine .v rfl (.and32 rfl rfl) (.v rfl (.move rfl) (.v rfl (.not32 rfl) (.v rfl (.ixArr1 underlying24 sizeOf23 rfl rfl (by omega)) ?_)))
   refine .v rfl (.load isAgg23 rfl .tk (by rfl)) ?_
   refine .v rfl (.and32 rfl rfl) (.v rfl (.xor32 rfl rfl) (.v rfl (.move rfl) (.v rfl (.ixArr1 underlying204 sizeOf23 rfl rfl (by omega)) ?_)))
   refine .v rfl (.loadC (A := AK1) isAgg23 rfl .tk (fun w hw => (by rw [show 0 + ((t : Nat) : Int).toNat = t by omega]; exact hK1 w hw t hlt))) ?_
   refine .v rfl (.move rfl) (.v rfl (.ixArr1 underlying204 sizeOf23 rfl rfl (by omega)) ?_)
   refine .v rfl (.load isAgg23 rfl .tk (w32s_get (g := sched b) (by rw [show 0 + ((t : Nat) : Int).toNat = t by omega]; exact wAt_get (by rw [hls]; omega)))) ?_
   refine .eff rfl (fun fu_ li_ hk_ hs_ hl_ => ?_)
   refine .call call129 (S_wardenref02_turn (n := 6) (by omega)) rfl .pk rfl (fun x76 hx76 => ?_)
   refine .nil (TS.back hk_ hs_ hl_ .pk ?_)
   refine .eff rfl (fun fu_ li_ hk_ hs_ hl_ => ?_)
   refine .call call129 (S_wardenref02_turn (n := 11) (by omega)) rfl .pk rfl (fun x78 hx78 => ?_)
   refine .nil (TS.back hk_ hs_ hl_ .pk ?_)
   refine .v rfl (.xor32 rfl rfl) (.eff rfl (fun fu_ li_ hk_ hs_ hl_ => ?_))
   refine .call call129 (S_wardenref02_turn (n := 25) (by omega)) rfl .pk rfl (fun x81 hx81 => ?_)
   refine .nil (TS.back hk_ hs_ hl_ .pk ?_)
   refine .v rfl (.xor32 rfl rfl) (.v rfl (.add32 rfl rfl) (.v rfl (.add32 rfl rfl) (.v rfl (.add32 rfl rfl) (.v rfl (.add32 rfl rfl) (.v rfl (.assign (v := w32 (r.t1 (wAt KK t) (wAt (sched b) t))) rfl) ?_)))))
   refine .done (TQ.then (.seq (.draw (H := [.row b9 _ _]) (.q 0 (.q 2 (.q 5 (.q 8 (.q 9 (.q 10 (.q 11 (.q 12 (.q 13 (.q 14 (.q 15 (.q 16 (.q 17 (.q 18 (.q 19 (.q 20 (.q 21 (.q 22 (.e 1 (.e 3 (.q 4 (.e 6 (.q 7 (.q 23 (.q 24 .done))))))))))))))))))))))))) (by kernel_rfl) .pk (by kernel_rfl) (by kernel_rfl) (by kernel_rfl) ?_)))
   refine .v rfl (.move rfl) (.v rfl (.move rfl) (.v rfl (.move rfl) (.v rfl (.move rfl) (.v rfl (.ixArr1 underlying24 sizeOf23 rfl rfl (by omega)) ?_))))
   refine .v rfl (.load isAgg23 rfl .tk (by rfl)) ?_
   refine .v rfl (.and32 rfl rfl) (.v rfl (.move rfl) (.v rfl (.ixArr1 underlying24 sizeOf23 rfl rfl (by omega)) ?_))
   refine .v rfl (.load isAgg23 rfl .tk (by rfl)) ?_
   refine .v rfl (.and32 rfl rfl) (.v rfl (.xor32 rfl rfl) (.v rfl (.ixArr1 underlying24 sizeOf23 rfl rfl (by omega)) ?_))
   refine .v rfl (.load isAgg23 rfl .tk (by rfl)) ?_
   refine .v rfl (.ixArr1 underlying24 sizeOf23 rfl rfl (by omega)) ?_
   refine .v rfl (.load isAgg23 rfl .tk (by rfl)) ?_
   refine .v rfl (.and32 rfl rfl) (.v rfl (.xor32 rfl rfl) (.eff rfl (fun fu_ li_ hk_ hs_ hl_ => ?_)))
   refine .call call129 (S_wardenref02_turn (n := 2) (by omega)) rfl .pk rfl (fun x104 hx104 => ?_)
   refine .nil (TS.back hk_ hs_ hl_ .pk ?_)
   refine .eff rfl (fun fu_ li_ hk_ hs_ hl_ => ?_)
   refine .call call129 (S_wardenref02_turn (n := 13) (by omega)) rfl .pk rfl (fun x106 hx106 => ?_)
   refine .nil (TS.back hk_ hs_ hl_ .pk ?_)
   refine .v rfl (.xor32 rfl rfl) (.eff rfl (fun fu_ li_ hk_ hs_ hl_ => ?_))
   refine .call call129 (S_wardenref02_turn (n := 22) (by omega)) rfl .pk rfl (fun x109 hx109 => ?_)
   refine .nil (TS.back hk_ hs_ hl_ .pk ?_)
   refine .v rfl (.xor32 rfl rfl) (.v rfl (.add32 rfl rfl) (.v rfl (.assign (v := w32 r.t2) rfl) (.done (TQ.then (.region (.v (.move rfl) (.v (.move rfl) (.v (.add32 rfl rfl) (.v (.ixArr1 underlying24 sizeOf23 rfl rfl (by omega)) ?_)))))))))
   refine .v (.load isAgg23 rfl .tk (by rfl)) ?_
   refine .v (.ixArr1 underlying24 sizeOf23 rfl rfl (by omega)) ?_
   refine .v (.load isAgg23 rfl .tk (by rfl)) ?_
   refine .v (.ixArr1 underlying24 sizeOf23 rfl rfl (by omega)) ?_
   refine .v (.load isAgg23 rfl .tk (by rfl)) ?_
   refine .v (.ixArr1 underlying24 sizeOf23 rfl rfl (by omega)) ?_
   refine .v (.load isAgg23 rfl .tk (by rfl)) ?_
   refine .v (.move rfl) (.v (.add32 rfl rfl) (.v (.ixArr1 underlying24 sizeOf23 rfl rfl (by omega)) ?_))
   refine .v (.load isAgg23 rfl .tk (by rfl)) ?_
   refine .v (.ixArr1 underlying24 sizeOf23 rfl rfl (by omega)) ?_
   refine .v (.load isAgg23 rfl .tk (by rfl)) ?_
   refine .v (.ixArr1 underlying24 sizeOf23 rfl rfl (by omega)) ?_
   refine .v (.load isAgg23 rfl .tk (by rfl)) ?_
   refine .v (.buildCells (zs := [.int .u32 0, .int .u32 0, .int .u32 0, .int .u32 0, .int .u32 0, .int .u32 0, .int .u32 0, .int .u32 0]) (cs := [_, _, _, _, _, _, _, _]) zeroValue24 rfl underlying24 sizeOf23 (.cons rfl (.cons rfl (.cons rfl (.cons rfl (.cons rfl (.cons rfl (.cons rfl (.cons rfl .nil)))))))) rfl rfl) ?_
   refine .storeAll (us := w32s (r.round (wAt KK t) (wAt (sched b) t)).ws) sizeOf24 rfl rfl rfl rfl .up rfl ?_
   refine .nil (.blk_normal (TQ.then (.region (.v (.move rfl) (.v (.add64 rfl rfl (by omega)) ?_)))))
   refine .v (.assign rfl) (.nil ?_)
   rw [show r.round (wAt KK t) (wAt (sched b) t) = s.rounds b (t + 1) from by rw [S8.rounds, hr]]
   exact .next ⟨t + 1, by omega⟩ (by dsimp only; omega) .st .en
  ·
   refine .exit (.then_exit (.then_exit (.blk_hit (TQ.then (.seq (.seq ?_))))))
   obtain ⟨t, ht⟩ := z
   obtain rfl : t = 64 := by dsimp only at h2; omega
   dsimp only
   obtain ⟨r, hr⟩ : ∃ r, s.rounds b 64 = r := ⟨_, rfl⟩
   rw [hr]
   have hz : ∀ i, (addUp r.ws s.ws i).length = 8 := fun i => addUp_len rfl
   rw [show w32s r.ws = w32s (addUp r.ws s.ws 0) from rfl]
   refine .region (.v (.assign rfl) (.nil (TQ.then (.block (.loop (X := {i : Nat // i ≤ 8}) (s0 := [(2, _), (4, _), (9, _)]) (fun y => [(15, i64 y.1)]) (fun y => [.row b9 (w32s (addUp r.ws s.ws y.1)) 24]) (fun y => 8 - y.1) ⟨0, by omega⟩ .st .pk (fun y => ?_))))))
   refine .seq (.seq (.region (.v (.move rfl) (.v (.lss rfl rfl) (.nil (TQ.then ?_))))))
   first | refine .cond_dec rfl (fun h3 => ?_) (fun h3 => ?_) | refine .cond rfl (fun h3 => ?_) (fun h3 => ?_)
   ·
    obtain ⟨i, hi⟩ := y
    dsimp only at h3 ⊢
    have hlt : i < 8 := by omega
    refine .skip (TQ.then (.seq (.block (.draw (H := []) (.q 0 (.q 1 (.q 2 (.q 4 (.q 5 (.b 3 (.e 6 (.q 7 (.q 8 (.e 9 .done)))) 6 (.e 3 (.q 7 (.q 8 (.e 9 .done)))))))))) (by kernel_rfl) .pk (by kernel_rfl) (by kernel_rfl) (by kernel_rfl) ?_))))
    refine .v rfl (.move rfl) (.v rfl (.move rfl) (.v rfl (.ixArr1 underlying24 sizeOf23 rfl rfl (by omega)) ?_))
    refine .v rfl (.move rfl) (.v rfl (.ixArr1 underlying24 sizeOf23 rfl rfl (by omega)) ?_)
    refine .both rfl rfl (fun fu_ li_ hk_ hs_ hl_ => ?_) (fun fu_ li_ hk_ hs_ hl_ => ?_)
    ·
     refine .v (.load isAgg23 rfl .tk (w32s_get (g := addUp r.ws s.ws i) (by rw [show 0 + ((i : Nat) : Int).toNat = i by omega]; exact wAt_get (by rw [hz]; omega)))) ?_
     refine .nil (TS.back hk_ hs_ hl_ .pk ?_)
     refine .eff rfl (fun fu_ li_ hk_ hs_ hl_ => ?_)
     refine .v (.load isAgg23 rfl .tk (w32s_get (g := s.ws) (by rw [show 0 + ((i : Nat) : Int).toNat = i by omega]; exact wAt_get (by exact hlt)))) ?_
     refine .nil (TS.back hk_ hs_ hl_ .pk ?_)
     refine .v rfl (.add32 rfl rfl) (.v rfl (.ixArr1 underlying24 sizeOf23 rfl rfl (by omega)) ?_)
     refine .eff rfl (fun fu_ li_ hk_ hs_ hl_ => ?_)
     refine .storeTo (new := w32s (addUp r.ws s.ws (i + 1))) sizeOf23 rfl rfl rfl .up (by rw [show 0 + ((i : Nat) : Int).toNat = i by omega, ← addUp_set (a := r.ws) (b := s.ws) (i := i) hlt rfl]; exact w32s_set) (by rw [w32s_length, hz]; omega) ?_
     refine .nil (TS.back hk_ hs_ hl_ .pk ?_)
     refine .done (.blk_normal (TQ.then (.region (.v (.move rfl) (.v (.add64 rfl rfl (by omega)) ?_)))))
     refine .v (.assign rfl) (.nil ?_)
     exact .next ⟨i + 1, by omega⟩ (by dsimp only; omega) .st .en
    ·
     refine .v (.load isAgg23 rfl .tk (w32s_get (g := s.ws) (by rw [show 0 + ((i : Nat) : Int).toNat = i by omega]; exact wAt_get (by exact hlt)))) ?_
     refine .nil (TS.back hk_ hs_ hl_ .pk ?_)
     refine .eff rfl (fun fu_ li_ hk_ hs_ hl_ => ?_)
     refine .v (.load isAgg23 rfl .tk (w32s_get (g := addUp r.ws s.ws i) (by rw [show 0 + ((i : Nat) : Int).toNat = i by omega]; exact wAt_get (by rw [hz]; omega)))) ?_
     refine .nil (TS.back hk_ hs_ hl_ .pk ?_)
     refine .v rfl (.add32 rfl rfl) (.v rfl (.ixArr1 underlying24 sizeOf23 rfl rfl (by omega)) ?_)
     refine .eff rfl (fun fu_ li_ hk_ hs_ hl_ => ?_)
     refine .storeTo (new := w32s (addUp r.ws s.ws (i + 1))) sizeOf23 rfl rfl rfl .up (by rw [show 0 + ((i : Nat) : Int).toNat = i by omega, ← addUp_set (a := r.ws) (b := s.ws) (i := i) hlt rfl]; exact w32s_set) (by rw [w32s_length, hz]; omega) ?_
     refine .nil (TS.back hk_ hs_ hl_ .pk ?_)
     refine .done (.blk_normal (TQ.then (.region (.v (.move rfl) (.v (.add64 rfl rfl (by omega)) ?_)))))
     refine .v (.assign rfl) (.nil ?_)
     exact .next ⟨i + 1, by omega⟩ (by dsimp only; omega) .st .en
   ·
    refine .exit (.then_exit (.then_exit (.blk_hit (TQ.then (.seq ?_)))))
    obtain ⟨i, hi⟩ := y
    obtain rfl : i = 8 := by dsimp only at h3; omega
    dsimp only
    rw [addUp_all]
    refine .region (.v (.loadAgg (vs := [_, _, _, _, _, _, _, _]) isAgg24 sizeOf24 rfl .tk (by rfl) (by rfl)) ?_)
    refine .storeAll (us := [_, _, _, _, _, _, _, _]) sizeOf24 rfl rfl rfl rfl .up rfl ?_
    refine .nil (TQ.then (.ret ?_))
    exact .ret results97 (.agg isAgg24 sizeOf24 rfl .tk (by rfl) (by rfl) .nil) () (by rw [S8.block, hr]; rfl) trivial .en

set_option maxHeartbeats 400000 in
theorem S_wardenref02_First  : Spec prog 95 [].toArray [] (fun _ : Unit => True) (fun _ => S8.first.val) (fun _ => []) := by
 refine Spec.body func95 rfl ntmps95 rfl (fun σ R => ?_)
 refine .seq (.region (.alloc zeroValue24 rfl rfl (fun b0 => ?_)))
 refine .nil (TQ.then (.seq (.region (.v (.buildCells (zs := [.int .u32 0, .int .u32 0, .int .u32 0, .int .u32 0, .int .u32 0, .int .u32 0, .int .u32 0, .int .u32 0]) (cs := [_, _, _, _, _, _, _, _]) zeroValue24 rfl underlying24 sizeOf23 (.cons rfl (.cons rfl (.cons rfl (.cons rfl (.cons rfl (.cons rfl (.cons rfl (.cons rfl .nil)))))))) rfl rfl) ?_))))
 refine .storeAll (us := [_, _, _, _, _, _, _, _]) sizeOf24 rfl rfl rfl rfl .up rfl ?_
 refine .nil (TQ.then (.ret ?_))
 exact .ret results95 (.agg isAgg24 sizeOf24 rfl .tk (by rfl) (by rfl) .nil) () (by first | rfl | simp [tup, *]) trivial .en

theorem pl_116_WRef02 : Places prog 116 [(0, 8), (8, 1), (9, 1)] := ⟨_, underlying116, fun w => by simp [sizeOf2, sizeOf24, sizeOf31]⟩
set_option maxHeartbeats 400000 in
theorem S_wardenref02_New  : Spec prog 65 [].toArray [] (fun _ : Unit => True) (fun _ => .agg #[w32 S8.first.a, w32 S8.first.b, w32 S8.first.c, w32 S8.first.d, w32 S8.first.e, w32 S8.first.f, w32 S8.first.g, w32 S8.first.h, .slice none 0 0, i64 0]) (fun _ => []) := by
 refine Spec.body func65 rfl ntmps65 rfl (fun σ R => ?_)
 refine .seq (.region (.alloc zeroValue116 rfl rfl (fun b0 => ?_)))
 refine .nil (TQ.then (.seq (.region (.call call95 (S_wardenref02_First) rfl .pk rfl (fun x1 hx1 => ?_)))))
 refine .v (.buildS (zs := [.int .u32 0, .int .u32 0, .int .u32 0, .int .u32 0, .int .u32 0, .int .u32 0, .int .u32 0, .int .u32 0, .slice none 0 0, .int .i64 0]) (cs := [_, _, _, _, _, _, _, _, _, _]) zeroValue116 rfl pl_116_WRef02 (.cons (us := [_, _, _, _, _, _, _, _]) rfl rfl rfl rfl rfl (.nil rfl))) ?_
 refine .storeAll (us := [_, _, _, _, _, _, _, _, _, _]) sizeOf116 rfl rfl rfl rfl .up rfl ?_
 refine .nil (TQ.then (.ret ?_))
 exact .ret results65 (.agg isAgg116 sizeOf116 rfl .tk (by rfl) (by rfl) .nil) () (by first | rfl | simp [tup, *]) trivial .en

theorem fo_116_0_WRef02 : FieldOff prog 116 0 0 := FieldOff.of 24 8 underlying116 rfl sizeOf24 rfl
theorem fo_116_1_WRef02 : FieldOff prog 116 1 8 := FieldOff.of 31 1 underlying116 rfl sizeOf31 rfl
theorem fo_116_2_WRef02 : FieldOff prog 116 2 9 := FieldOff.of 2 1 underlying116 rfl sizeOf2 rfl
set_option maxHeartbeats 1000000 in
theorem S_wardenref02_Digest_Add {AK1 : Assn} {st : S8} {n : Int} {ws us : List W} {v : Value} {bs c : Nat} (hn : 0 ≤ n ∧ n + us.length ≤ 36028797018963968) (hu : us.length ≤ 1000000 ∧ us.length ≤ c) (hw : ws.length < 16) (hK1 : Tab AK1 1 := by assumption) : Spec prog 67 [.agg #[w32 st.a, w32 st.b, w32 st.c, w32 st.d, w32 st.e, w32 st.f, w32 st.g, w32 st.h, v, i64 n], .slice (some ⟨bs, 0, none⟩) us.length c].toArray [AK1, GSl 23 1 v ws.length (w32s ws), .row bs (w32s us) 23] (fun x : Value => True) (fun x => .agg #[w32 (putAll st ws us).1.a, w32 (putAll st ws us).1.b, w32 (putAll st ws us).1.c, w32 (putAll st ws us).1.d, w32 (putAll st ws us).1.e, w32 (putAll st ws us).1.f, w32 (putAll st ws us).1.g, w32 (putAll st ws us).1.h, x, i64 (n + us.length)]) (fun x => [AK1, GSl 23 1 x (putAll st ws us).2.length (w32s (putAll st ws us).2), .row bs (w32s us) 23]) := by
 refine Spec.body func67 rfl ntmps67 rfl (fun σ R => ?_)
 refine .seq (.region (.box (vs := [_, _, _, _, _, _, _, _, _, _]) rfl rfl rfl (fun b2 => ?_)))
 refine .alloc zeroValue116 rfl rfl (fun b4 => ?_)
 refine .nil (TQ.then (.seq (.seq (.region (.v (.move rfl) (.v (.len underlying31 rfl) ?_))))))
 refine .v (.field fo_116_2_WRef02 rfl) (.v (.load isAgg2 rfl .tk (by rfl)) ?_)
 refine .v (.sub64 rfl rfl (by omega)) ?_
 refine .v (.gtr rfl rfl) (.nil (TQ.then ?_))
 first | refine .cond_dec rfl (fun h1 => ?_) (fun h1 => ?_) | refine .cond rfl (fun h1 => ?_) (fun h1 => ?_)
 ·
  exfalso; omega
 ·
  refine .skip (TQ.then (.seq (.region (.v (.assign rfl) (.nil (TQ.then (.seq (.ent (GSl.emp (E := 23) (k := 1)) ?_))))))))
  refine .region (.v (.move rfl) (.v (.field fo_116_1_WRef02 rfl) (.v (.load isAgg31 rfl .tk (by rfl)) ?_)))
  refine .appendG (k := 1) underlying31 typeInfo23 rfl rfl rfl rfl (by decide) rfl rfl .tk .tk w32s_cells (by simp only [t23]; omega) rfl (fun v18 hv18 => ?_)
  refine .v (.assign rfl) (.nil (TQ.then (.seq (.region (.v (.field fo_116_0_WRef02 rfl) (.v (.loadAgg (vs := [_, _, _, _, _, _, _, _]) isAgg24 sizeOf24 rfl .tk (by rfl) (by rfl)) ?_))))))
  refine .v (.field fo_116_2_WRef02 rfl) (.v (.load isAgg2 rfl .tk (by rfl)) ?_)
  refine .v (.move rfl) (.v (.len underlying31 rfl) ?_)
  refine .v (.add64 rfl rfl (by omega)) ?_
  refine .v (.buildS (zs := [.int .u32 0, .int .u32 0, .int .u32 0, .int .u32 0, .int .u32 0, .int .u32 0, .int .u32 0, .int .u32 0, .slice none 0 0, .int .i64 0]) (cs := [_, _, _, _, _, _, _, _, _, _]) zeroValue116 rfl pl_116_WRef02 (.cons (us := [_, _, _, _, _, _, _, _]) rfl rfl rfl rfl rfl (.cons (us := [_]) rfl rfl rfl rfl rfl (.nil rfl)))) ?_
  refine .alloc zeroValue116 rfl rfl (fun b6 => ?_)
  refine .storeAll (us := [_, _, _, _, _, _, _, _, _, _]) sizeOf116 rfl rfl rfl rfl .up rfl ?_
  refine .nil (TQ.then (.seq (.seq ?_)))
  rw [show GSl 23 1 v18 (0 + ws.length) ([] ++ w32s ws) = GSl 23 1 v18 ws.length (w32s ws) from by rw [Nat.zero_add, List.nil_append]]
  refine .region (.v (.assign rfl) (.nil (TQ.then (.block (.loop (X := {i : Nat // i ≤ us.length} × {v : Value // isCell v = true}) (s0 := [(1, _), (4, _), (6, _)]) (fun x => [(5, x.2.1), (7, i64 x.1.1)]) (fun x => [.row b6 [w32 (putAll st ws (us.take x.1.1)).1.a, w32 (putAll st ws (us.take x.1.1)).1.b, w32 (putAll st ws (us.take x.1.1)).1.c, w32 (putAll st ws (us.take x.1.1)).1.d, w32 (putAll st ws (us.take x.1.1)).1.e, w32 (putAll st ws (us.take x.1.1)).1.f, w32 (putAll st ws (us.take x.1.1)).1.g, w32 (putAll st ws (us.take x.1.1)).1.h, .slice none 0 0, i64 (n + us.length)] 116, GSl 23 1 x.2.1 (putAll st ws (us.take x.1.1)).2.length (w32s (putAll st ws (us.take x.1.1)).2)]) (fun x => us.length - x.1.1) (⟨0, by omega⟩, ⟨v18, hv18⟩) .st .pk (fun x => ?_))))))
  refine .seq (.seq (.region (.v (.move rfl) (.v (.move rfl) (.v (.len underlying31 rfl) ?_)))))
  refine .v (.lss rfl rfl) (.nil (TQ.then ?_))
  first | refine .cond_dec rfl (fun h2 => ?_) (fun h2 => ?_) | refine .cond rfl (fun h2 => ?_) (fun h2 => ?_)
  ·
   obtain ⟨⟨i, hi⟩, v5, hv5⟩ := x
   dsimp only at h2 ⊢
   have hlt : i < us.length := by omega
   obtain ⟨q, hq⟩ : ∃ q, putAll st ws (us.take i) = q := ⟨_, rfl⟩
   rw [hq]
   have hqs : q.2.length < 16 := by rw [← hq]; exact putAll_short hw
   refine .skip (TQ.then (.seq (.block (.seq (.region (.v (.move rfl) (.v (.move rfl) (.v (.move rfl) (.v (.ixSlice1 underlying31 sizeOf23 rfl rfl (by omega)) ?_)))))))))
   refine .v (.load isAgg23 rfl .tk (w32s_get (g := us) (by rw [show 0 + ((i : Nat) : Int).toNat = i by omega]; exact wAt_get hlt))) ?_
   refine .buildSlice (zs := [.int .u32 0]) (cs := [_]) underlying31 sizeOf23 zeroValue23 rfl rfl rfl (by kernel_rfl) rfl rfl (fun b38 => ?_)
   refine .append (k := 1) (us := [w32 (wAt us i)]) underlying31 typeInfo23 rfl rfl rfl rfl (by decide) rfl rfl .tk .tk (by rfl) (by rfl) rfl (by simp only [t23]; omega) rfl (fun v39 hv39 => ?_)
   refine .v (.assign rfl) (.nil (TQ.then (.seq (.region (.v (.move rfl) (.v (.lenG underlying31 rfl .tk) ?_))))))
   refine .v (.eql rfl rfl) (.nil (TQ.then ?_))
   first | refine .cond_dec rfl (fun h3 => ?_) (fun h3 => ?_) | refine .cond rfl (fun h3 => ?_) (fun h3 => ?_)
   ·
    refine .seq (.ent (Ent.trans (Ent.perm (M := [GSl _ _ v39 _ _]) .pk) GSl.openE) ?_)
    refine .ex .here (fun y => ?_)
    rcases y with _ | ⟨g, gc, jj⟩
    ·
     refine .fact .here (fun hy => ?_)
     exfalso; omega
    refine .allL .here ?_
    refine .fact .here (fun hy => ?_)
    obtain ⟨rfl, hy1, hy2, hy3, hy4⟩ := hy
    refine .draw (H := [.row g _ _]) (.q 0 (.q 2 (.q 3 (.q 4 (.e 1 (.e 5 (.q 6 (.e 7 .done)))))))) (by kernel_rfl) .pk (by kernel_rfl) (by kernel_rfl) (by kernel_rfl) ?_
    refine .v rfl (.field fo_116_0_WRef02 rfl) (.v rfl (.move rfl) (.v rfl (.toArrPtr underlying170 rfl (by omega)) ?_))
    refine .v rfl (.loadAgg (vs := w32s (q.2 ++ [wAt us i])) isAgg170 sizeOf170 rfl .tk (by rw [List.drop_zero, List.take_left' (by simp [w32s_length]; omega)]; simp [w32s]) (by rw [w32s_length]; simp; omega)) ?_
    refine .eff rfl (fun fu_ li_ hk_ hs_ hl_ => ?_)
    refine .v (.loadAgg (vs := [_, _, _, _, _, _, _, _]) isAgg24 sizeOf24 rfl .tk (by rfl) (by rfl)) ?_
    refine .nil (TS.back hk_ hs_ hl_ .pk ?_)
    refine .eff rfl (fun fu_ li_ hk_ hs_ hl_ => ?_)
    refine .call call97 (S_wardenref02_Block (s := q.1) (b := q.2 ++ [wAt us i]) (by simp; omega)) rfl .pk rfl (fun x48 hx48 => ?_)
    refine .nil (TS.back hk_ hs_ hl_ .pk ?_)
    refine .v rfl (.field fo_116_0_WRef02 rfl) (.eff rfl (fun fu_ li_ hk_ hs_ hl_ => ?_))
    refine .storeAggTo (us := [_, _, _, _, _, _, _, _]) (new := [w32 (q.1.block (q.2 ++ [wAt us i])).a, w32 (q.1.block (q.2 ++ [wAt us i])).b, w32 (q.1.block (q.2 ++ [wAt us i])).c, w32 (q.1.block (q.2 ++ [wAt us i])).d, w32 (q.1.block (q.2 ++ [wAt us i])).e, w32 (q.1.block (q.2 ++ [wAt us i])).f, w32 (q.1.block (q.2 ++ [wAt us i])).g, w32 (q.1.block (q.2 ++ [wAt us i])).h, .slice none 0 0, i64 (n + us.length)]) sizeOf24 rfl rfl rfl rfl .up rfl (by simp) ?_
    refine .nil (TS.back hk_ hs_ hl_ .pk ?_)
    refine .done (TQ.then (.ent (GSl.emp (E := 23) (k := 1)) ?_))
    refine .region (.v (.assign rfl) (.nil (.blk_normal (TQ.then (.region (.v (.move rfl) (.v (.add64 rfl rfl (by omega)) ?_)))))))
    refine .v (.assign rfl) (.nil ?_)
    have hp : putAll st ws (us.take (i + 1)) = (q.1.block (q.2 ++ [wAt us i]), []) := by
     rw [List.take_succ_eq_append_getElem hlt, putAll_append, hq, show us[i] = wAt us i from by unfold wAt; rw [List.getElem?_eq_getElem hlt]; rfl]
     show Dig.put _ _ _ = _
     unfold Dig.put; rw [if_pos (by simp; omega)]
    refine .next (⟨i + 1, by omega⟩, ⟨.slice none 0 0, rfl⟩) (by dsimp only; omega) .st ?_
    dsimp only; rw [hp]; exact .en
   ·
    refine .skip (.blk_normal (TQ.then (.region (.v (.move rfl) (.v (.add64 rfl rfl (by omega)) ?_)))))
    refine .v (.assign rfl) (.nil ?_)
    have hp : putAll st ws (us.take (i + 1)) = (q.1, q.2 ++ [wAt us i]) := by
     rw [List.take_succ_eq_append_getElem hlt, putAll_append, hq, show us[i] = wAt us i from by unfold wAt; rw [List.getElem?_eq_getElem hlt]; rfl]
     show Dig.put _ _ _ = _
     unfold Dig.put; rw [if_neg (by simp; omega)]
    refine .next (⟨i + 1, by omega⟩, ⟨v39, hv39⟩) (by dsimp only; omega) .st ?_
    dsimp only; rw [hp]
    rw [show GSl 23 1 v39 (q.2.length + 1) (w32s q.2 ++ [w32 (wAt us i)]) = GSl 23 1 v39 (q.2 ++ [wAt us i]).length (w32s (q.2 ++ [wAt us i])) from by simp [w32s]]
    exact .en
  ·
   refine .exit (.then_exit (.then_exit (.blk_hit (TQ.then (.seq ?_)))))
   obtain ⟨⟨i, hi⟩, v5, hv5⟩ := x
   obtain rfl : i = us.length := by dsimp only at h2; omega
   dsimp only
   rw [List.take_of_length_le (Nat.le_refl _)]
   obtain ⟨q, hq⟩ : ∃ q, putAll st ws us = q := ⟨_, rfl⟩
   rw [hq]
   refine .region (.v (.move rfl) (.v (.field fo_116_1_WRef02 rfl) (.store sizeOf31 rfl rfl hv5 .up (by rfl) ?_)))
   refine .nil (TQ.then (.seq (.region (.v (.loadAgg (vs := [_, _, _, _, _, _, _, _, _, _]) isAgg116 sizeOf116 rfl .tk (by rfl) (by rfl)) ?_))))
   refine .storeAll (us := [_, _, _, _, _, _, _, _, _, _]) sizeOf116 rfl rfl (by simp only [List.all_cons, hv5, List.all_nil, Bool.and_true]; rfl) rfl .up rfl ?_
   refine .nil (TQ.then (.ret ?_))
   exact .ret results67 (.agg isAgg116 sizeOf116 rfl .tk (by rfl) (by rfl) .nil) v5 (by first | rfl | simp [tup, *]) trivial .en
end Go.Wd
