/- PROVED HERE: contracts of functions of the program, walked: each returns what the plain model says, for all items that its precondition names. No condition beyond each theorem's own. -/
import Derived.Test.YtkpomphooljgmaaGreatDoorProg
import Derived.Test.YtkpomphooljgmaaGreatDoorModel
import Derived.Test.YtkpomphooljgmaaGreatDoorPk
import Derived.Test.YtkpomphooljgmaaGreatDoorMEntry
import Derived.Test.YtkpomphooljgmaaGreatDoorBase4
namespace Go.Wd
open Go Go.Proofs Go.Proofs.Tryz
set_option maxHeartbeats 400000 in
theorem S_entry_page {a : Int} : Spec prog 155 [i64 a].toArray [] (fun _ : Unit => True) (fun _ => .bool (decide (0 ≤ a ∧ a ≤ 63))) (fun _ => []) := by
 refine Spec.body func155 rfl ntmps155 rfl (fun σ R => ?_)
 refine .seq (.region (.v (.assign rfl) (.nil (TQ.then (.seq (.region (.v (.move rfl) (.v (.geq rfl rfl) (.v (.move rfl) ?_)))))))))
 refine' TL.andG (k := 3) (dj := 5) (d := 8) rfl ?_ ?_ ?_
 rotate_left
 ·
  intro g8 hd
  first | replace g8 := of_decide_eq_true g8 | skip
  refine .want rfl rfl (.v (.move rfl) (.want rfl rfl (.v (.leq rfl rfl) (.v (.pick_true rfl rfl) (.nil ?_)))))
  exact .keep (Sub.cons rfl (Sub.push rfl (Sub.push rfl (Sub.push rfl (Sub.pushSame hd Sub.rfl')))))
 ·
  intro g8 hd
  refine .skip rfl rfl rfl (.skip rfl rfl rfl (.v (.pick_false rfl rfl) (.nil ?_)))
  exact .keep (Sub.cons rfl (Sub.push rfl (Sub.push rfl (Sub.push rfl (Sub.pushSame hd Sub.rfl')))))
 first | refine .boolAnd ?_ | skip
 refine .v (.assign rfl) (.nil (TQ.then (.ret ?_)))
 exact .ret results155 (.tmp rfl .nil) () (by first | rfl | simp [tup, *]) trivial .en

theorem fo_107_0_WEntry : FieldOff prog 107 0 0 := FieldOff.of 64 1 underlying107 rfl sizeOf64 rfl
theorem fo_107_1_WEntry : FieldOff prog 107 1 1 := FieldOff.of 3 1 underlying107 rfl sizeOf3 rfl
theorem fo_107_2_WEntry : FieldOff prog 107 2 2 := FieldOff.of 3 1 underlying107 rfl sizeOf3 rfl
theorem fo_107_3_WEntry : FieldOff prog 107 3 3 := FieldOff.of 69 1 underlying107 rfl sizeOf69 rfl
theorem fo_107_4_WEntry : FieldOff prog 107 4 4 := FieldOff.of 4 1 underlying107 rfl sizeOf4 rfl
theorem pl_107_WEntry : Places prog 107 [(0, 1), (1, 1), (2, 1), (3, 1), (4, 1)] := ⟨_, underlying107, fun w => by simp [sizeOf3, sizeOf4, sizeOf64, sizeOf69]⟩
set_option maxHeartbeats 400000 in
theorem S_entry_Check {e : Ety} : Spec prog 126 [e.val].toArray [] (fun _ : Unit => True) (fun _ => i64 e.check) (fun _ => []) := by
 obtain ⟨ty, own, refs, st, ent⟩ := e
 dsimp only [Ety.val, Ety.cells]
 refine Spec.body func126 rfl ntmps126 rfl (fun σ R => ?_)
 refine .seq (.region (.box (vs := [_, _, _, _, _]) rfl rfl rfl (fun b1 => ?_)))
 refine .v (.assign rfl) (.nil (TQ.then (.seq (.region (.v (.field fo_107_0_WEntry rfl) (.v (.load isAgg64 rfl .tk (by rfl)) ?_))))))
 refine .v (.build (cs := [_, _, _, _, _]) zeroValue107 pl_107_WEntry rfl rfl) ?_
 refine .alloc zeroValue107 rfl rfl (fun b3 => ?_)
 refine .storeAll (us := [_, _, _, _, _]) sizeOf107 rfl rfl rfl rfl .up rfl ?_
 refine .nil (TQ.then (.seq (.region (.v (.field fo_107_0_WEntry rfl) (.v (.load isAgg64 rfl .tk (by rfl)) ?_)))))
 refine .v (.geq rfl rfl) (.v (.move rfl) ?_)
 refine' TL.andG (k := 4) (dj := 11) (d := 15) rfl ?_ ?_ ?_
 rotate_left
 ·
  intro g15 hd
  first | replace g15 := of_decide_eq_true g15 | skip
  refine .want rfl rfl (.v (.field fo_107_0_WEntry rfl) (.want rfl rfl (.v (.load isAgg64 rfl .tk (by rfl)) ?_)))
  refine .want rfl rfl (.v (.lss rfl rfl) (.v (.pick_true rfl rfl) (.nil ?_)))
  exact .keep (Sub.cons rfl (Sub.push rfl (Sub.push rfl (Sub.push rfl (Sub.push rfl (Sub.pushSame hd Sub.rfl'))))))
 ·
  intro g15 hd
  refine .skip rfl rfl rfl (.skip rfl rfl rfl (.skip rfl rfl rfl (.v (.pick_false rfl rfl) (.nil ?_))))
  exact .keep (Sub.cons rfl (Sub.push rfl (Sub.push rfl (Sub.push rfl (Sub.push rfl (Sub.pushSame hd Sub.rfl'))))))
 first | refine .boolAnd ?_ | skip
 refine .v (.assign rfl) (.nil (TQ.then (.seq (.seq (.region (.v (.field fo_107_0_WEntry rfl) (.v (.load isAgg64 rfl .tk (by rfl)) ?_)))))))
 refine .v (.neq rfl rfl) (.nil (TQ.then ?_))
 first | refine .cond_dec rfl (fun h1 => ?_) (fun h1 => ?_) | refine .cond rfl (fun h1 => ?_) (fun h1 => ?_)
 ·
  refine .seq (.region (.v (.field fo_107_1_WEntry rfl) (.v (.load isAgg3 rfl .tk (by rfl)) ?_)))
  refine .v (.field fo_107_1_WEntry rfl) (.store sizeOf3 rfl rfl rfl .up (by rfl) ?_)
  refine .nil (TQ.then (.region (.v (.move rfl) (.v (.move rfl) ?_))))
  refine' TL.andG (k := 4) (dj := 23) (d := 27) rfl ?_ ?_ ?_
  rotate_left
  ·
   intro g27 hd
   first | replace g27 := of_decide_eq_true g27 | skip
   refine .want rfl rfl (.v (.field fo_107_1_WEntry rfl) (.want rfl rfl (.v (.load isAgg3 rfl .tk (by rfl)) ?_)))
   refine .want rfl rfl (.call call155 (S_entry_page) rfl .pk rfl (fun x26 hx26 => ?_))
   refine .v (.pick_true rfl rfl) (.nil ?_)
   exact .keepE (Sub.cons rfl (Sub.push rfl (Sub.push rfl (Sub.push rfl (Sub.push rfl (Sub.pushSame hd Sub.rfl')))))) .en
  ·
   intro g27 hd
   refine .skip rfl rfl rfl (.skip rfl rfl rfl (.skip rfl rfl rfl (.v (.pick_false rfl rfl) (.nil ?_))))
   exact .keepE (Sub.cons rfl (Sub.push rfl (Sub.push rfl (Sub.push rfl (Sub.push rfl (Sub.pushSame hd Sub.rfl')))))) .en
  first | refine .boolAnd ?_ | skip
  refine .v (.assign rfl) (.nil (TQ.then (.seq (.seq (.region (.v (.field fo_107_0_WEntry rfl) (.v (.load isAgg64 rfl .tk (by rfl)) ?_)))))))
  refine .nil (TQ.then (.block (.seq (.region (.v (.eql rfl rfl) (.v (.assign rfl) (.nil (TQ.then ?_))))))))
  first | refine .cond_dec rfl (fun h2 => ?_) (fun h2 => ?_) | refine .cond rfl (fun h2 => ?_) (fun h2 => ?_)
  ·
   refine .seq (.draw (H := [.row b1 _ _]) (.q 0 (.q 1 (.q 2 (.q 3 (.q 4 (.e 5 (.q 6 (.e 7 .done)))))))) (by kernel_rfl) .pk (by kernel_rfl) (by kernel_rfl) (by kernel_rfl) ?_)
   refine .v rfl (.field fo_107_2_WEntry rfl) (.v rfl (.load isAgg3 rfl .tk (by rfl)) ?_)
   refine .v rfl (.field fo_107_3_WEntry rfl) (.v rfl (.load isAgg69 rfl .tk (by rfl)) ?_)
   refine .v rfl (.field fo_107_2_WEntry rfl) (.eff rfl (fun fu_ li_ hk_ hs_ hl_ => ?_))
   refine .store sizeOf3 rfl rfl rfl .up (by rfl) ?_
   refine .nil (TS.back hk_ hs_ hl_ .pk ?_)
   refine .v rfl (.field fo_107_3_WEntry rfl) (.eff rfl (fun fu_ li_ hk_ hs_ hl_ => ?_))
   refine .store sizeOf69 rfl rfl rfl .up (by rfl) ?_
   refine .nil (TS.back hk_ hs_ hl_ .pk ?_)
   refine .done (TQ.then (.region (.v (.move rfl) (.v (.move rfl) ?_))))
   refine' TL.andG (k := 4) (dj := 39) (d := 43) rfl ?_ ?_ ?_
   rotate_left
   ·
    intro g43 hd
    first | replace g43 := of_decide_eq_true g43 | skip
    refine .want rfl rfl (.v (.field fo_107_2_WEntry rfl) (.want rfl rfl (.v (.load isAgg3 rfl .tk (by rfl)) ?_)))
    refine .want rfl rfl (.call call155 (S_entry_page) rfl .pk rfl (fun x42 hx42 => ?_))
    refine .v (.pick_true rfl rfl) (.nil ?_)
    exact .keepE (Sub.cons rfl (Sub.push rfl (Sub.push rfl (Sub.push rfl (Sub.push rfl (Sub.pushSame hd Sub.rfl')))))) .en
   ·
    intro g43 hd
    refine .skip rfl rfl rfl (.skip rfl rfl rfl (.skip rfl rfl rfl (.v (.pick_false rfl rfl) (.nil ?_))))
    exact .keepE (Sub.cons rfl (Sub.push rfl (Sub.push rfl (Sub.push rfl (Sub.push rfl (Sub.pushSame hd Sub.rfl')))))) .en
   first | refine .boolAnd ?_ | skip
   refine .v (.move rfl) ?_
   refine' TL.andG (k := 4) (dj := 44) (d := 48) rfl ?_ ?_ ?_
   rotate_left
   ·
    intro g48 hd
    first | replace g48 := of_decide_eq_true g48 | skip
    refine .want rfl rfl (.v (.field fo_107_3_WEntry rfl) (.want rfl rfl (.v (.load isAgg69 rfl .tk (by rfl)) ?_)))
    refine .want rfl rfl (.v (.gtr rfl rfl) (.v (.pick_true rfl rfl) (.nil ?_)))
    exact .keep (Sub.cons rfl (Sub.push rfl (Sub.push rfl (Sub.push rfl (Sub.push rfl (Sub.pushSame hd Sub.rfl'))))))
   ·
    intro g48 hd
    refine .skip rfl rfl rfl (.skip rfl rfl rfl (.skip rfl rfl rfl (.v (.pick_false rfl rfl) (.nil ?_))))
    exact .keep (Sub.cons rfl (Sub.push rfl (Sub.push rfl (Sub.push rfl (Sub.push rfl (Sub.pushSame hd Sub.rfl'))))))
   first | refine .boolAnd ?_ | skip
   refine .v (.move rfl) ?_
   refine' TL.andG (k := 4) (dj := 49) (d := 53) rfl ?_ ?_ ?_
   rotate_left
   ·
    intro g53 hd
    first | replace g53 := of_decide_eq_true g53 | skip
    refine .want rfl rfl (.v (.field fo_107_3_WEntry rfl) (.want rfl rfl (.v (.load isAgg69 rfl .tk (by rfl)) ?_)))
    refine .want rfl rfl (.v (.lss rfl rfl) (.v (.pick_true rfl rfl) (.nil ?_)))
    exact .keep (Sub.cons rfl (Sub.push rfl (Sub.push rfl (Sub.push rfl (Sub.push rfl (Sub.pushSame hd Sub.rfl'))))))
   ·
    intro g53 hd
    refine .skip rfl rfl rfl (.skip rfl rfl rfl (.skip rfl rfl rfl (.v (.pick_false rfl rfl) (.nil ?_))))
    exact .keep (Sub.cons rfl (Sub.push rfl (Sub.push rfl (Sub.push rfl (Sub.push rfl (Sub.pushSame hd Sub.rfl'))))))
   first | refine .boolAnd ?_ | skip
   refine .v (.assign rfl) (.nil (.blk_normal (TQ.then (.seq (.seq (.region (.v (.move rfl) (.v (by first | exact Val.not_dec rfl | exact Val.not rfl) ?_))))))))
   refine .v (.move rfl) ?_
   refine' TL.orG (k := 4) (dj := 61) (d := 65) rfl ?_ ?_ ?_
   rotate_left
   ·
    intro g65 hd
    first | replace g65 := of_decide_eq_false g65 | skip
    refine .want rfl rfl (.v (.loadAgg (vs := [_, _, _, _, _]) isAgg107 sizeOf107 rfl .tk (by rfl) (by rfl)) ?_)
    refine .want rfl rfl (.v (.loadAgg (vs := [_, _, _, _, _]) isAgg107 sizeOf107 rfl .tk (by rfl) (by rfl)) ?_)
    refine .want rfl rfl (.v (.neqAg eqGuardType107 isAgg107 sizeOf107 typeInfo107 rfl rfl (EqOk.struct underlying107 stoodInHeld107 typeInfo107 isAgg107 sizeOf107 rfl rfl (EqFs.cons (xs := [_]) (ys := [_]) (by decide) rfl (EqOk.int underlying64 typeInfo64 isAgg64 sizeOf64) rfl (EqFs.cons (xs := [_]) (ys := [_]) (by decide) rfl (EqOk.int underlying3 typeInfo3 isAgg3 sizeOf3) rfl (EqFs.cons (xs := [_]) (ys := [_]) (by decide) rfl (EqOk.int underlying3 typeInfo3 isAgg3 sizeOf3) rfl (EqFs.cons (xs := [_]) (ys := [_]) (by decide) rfl (EqOk.int underlying69 typeInfo69 isAgg69 sizeOf69) rfl (EqFs.cons (xs := [_]) (ys := [_]) (by decide) rfl (EqOk.bool underlying4 typeInfo4 isAgg4 sizeOf4) rfl .nil))))))) ?_)
    refine .v (.pick_false rfl rfl) (.nil ?_)
    exact .keep (Sub.cons rfl (Sub.push rfl (Sub.push rfl (Sub.push rfl (Sub.push rfl (Sub.pushSame hd Sub.rfl'))))))
   ·
    intro g65 hd
    refine .skip rfl rfl rfl (.skip rfl rfl rfl (.skip rfl rfl rfl (.v (.pick_true rfl rfl) (.nil ?_))))
    exact .keep (Sub.cons rfl (Sub.push rfl (Sub.push rfl (Sub.push rfl (Sub.push rfl (Sub.pushSame hd Sub.rfl'))))))
   first | refine .boolOr ?_ | skip
   refine .nil (TQ.then ?_)
   first | refine .cond_dec rfl (fun h3 => ?_) (fun h3 => ?_) | refine .cond rfl (fun h3 => ?_) (fun h3 => ?_)
   ·
    refine .seq (.region (.v (.assign rfl) (.nil (TQ.then (.ret (.then_ret ?_))))))
    exact .ret results126 (.tmp rfl .nil) () (congrArg i64 (if_neg (by unfold Ety.ok; simp [Value.cells] at *; cases ent <;> simp at * <;> omega))) trivial .en
   ·
    refine .skip (TQ.then (.seq (.region (.v (.assign rfl) (.nil (TQ.then (.ret ?_)))))))
    exact .ret results126 (.tmp rfl .nil) () (congrArg i64 (if_pos (by unfold Ety.ok; simp [Value.cells] at *; cases ent <;> simp at * <;> omega))) trivial .en
  ·
   refine .seq (.region (.v (.eql rfl rfl) (.v (.assign rfl) (.nil (TQ.then ?_)))))
   first | refine .cond_dec rfl (fun h3 => ?_) (fun h3 => ?_) | refine .cond rfl (fun h3 => ?_) (fun h3 => ?_)
   ·
    refine .region (.v (.field fo_107_4_WEntry rfl) (.v (.load isAgg4 rfl .tk (by rfl)) ?_))
    refine .v (.field fo_107_4_WEntry rfl) (.store sizeOf4 rfl rfl rfl .up (by rfl) ?_)
    refine .nil (.blk_normal (TQ.then (.seq (.seq (.region (.v (.move rfl) (.v (by first | exact Val.not_dec rfl | exact Val.not rfl) ?_)))))))
    refine .v (.move rfl) ?_
    refine' TL.orG (k := 4) (dj := 61) (d := 65) rfl ?_ ?_ ?_
    rotate_left
    ·
     intro g65 hd
     first | replace g65 := of_decide_eq_false g65 | skip
     refine .want rfl rfl (.v (.loadAgg (vs := [_, _, _, _, _]) isAgg107 sizeOf107 rfl .tk (by rfl) (by rfl)) ?_)
     refine .want rfl rfl (.v (.loadAgg (vs := [_, _, _, _, _]) isAgg107 sizeOf107 rfl .tk (by rfl) (by rfl)) ?_)
     refine .want rfl rfl (.v (.neqAg eqGuardType107 isAgg107 sizeOf107 typeInfo107 rfl rfl (EqOk.struct underlying107 stoodInHeld107 typeInfo107 isAgg107 sizeOf107 rfl rfl (EqFs.cons (xs := [_]) (ys := [_]) (by decide) rfl (EqOk.int underlying64 typeInfo64 isAgg64 sizeOf64) rfl (EqFs.cons (xs := [_]) (ys := [_]) (by decide) rfl (EqOk.int underlying3 typeInfo3 isAgg3 sizeOf3) rfl (EqFs.cons (xs := [_]) (ys := [_]) (by decide) rfl (EqOk.int underlying3 typeInfo3 isAgg3 sizeOf3) rfl (EqFs.cons (xs := [_]) (ys := [_]) (by decide) rfl (EqOk.int underlying69 typeInfo69 isAgg69 sizeOf69) rfl (EqFs.cons (xs := [_]) (ys := [_]) (by decide) rfl (EqOk.bool underlying4 typeInfo4 isAgg4 sizeOf4) rfl .nil))))))) ?_)
     refine .v (.pick_false rfl rfl) (.nil ?_)
     exact .keep (Sub.cons rfl (Sub.push rfl (Sub.push rfl (Sub.push rfl (Sub.push rfl (Sub.pushSame hd Sub.rfl'))))))
    ·
     intro g65 hd
     refine .skip rfl rfl rfl (.skip rfl rfl rfl (.skip rfl rfl rfl (.v (.pick_true rfl rfl) (.nil ?_))))
     exact .keep (Sub.cons rfl (Sub.push rfl (Sub.push rfl (Sub.push rfl (Sub.push rfl (Sub.pushSame hd Sub.rfl'))))))
    first | refine .boolOr ?_ | skip
    refine .nil (TQ.then ?_)
    first | refine .cond_dec rfl (fun h4 => ?_) (fun h4 => ?_) | refine .cond rfl (fun h4 => ?_) (fun h4 => ?_)
    ·
     refine .seq (.region (.v (.assign rfl) (.nil (TQ.then (.ret (.then_ret ?_))))))
     exact .ret results126 (.tmp rfl .nil) () (congrArg i64 (if_neg (by unfold Ety.ok; simp [Value.cells] at *; cases ent <;> simp at * <;> omega))) trivial .en
    ·
     refine .skip (TQ.then (.seq (.region (.v (.assign rfl) (.nil (TQ.then (.ret ?_)))))))
     exact .ret results126 (.tmp rfl .nil) () (congrArg i64 (if_pos (by unfold Ety.ok; simp [Value.cells] at *; cases ent <;> simp at * <;> omega))) trivial .en
   ·
    refine .skip (.blk_normal (TQ.then (.seq (.seq (.region (.v (.move rfl) (.v (by first | exact Val.not_dec rfl | exact Val.not rfl) ?_)))))))
    refine .v (.move rfl) ?_
    refine' TL.orG (k := 4) (dj := 61) (d := 65) rfl ?_ ?_ ?_
    rotate_left
    ·
     intro g65 hd
     first | replace g65 := of_decide_eq_false g65 | skip
     refine .want rfl rfl (.v (.loadAgg (vs := [_, _, _, _, _]) isAgg107 sizeOf107 rfl .tk (by rfl) (by rfl)) ?_)
     refine .want rfl rfl (.v (.loadAgg (vs := [_, _, _, _, _]) isAgg107 sizeOf107 rfl .tk (by rfl) (by rfl)) ?_)
     refine .want rfl rfl (.v (.neqAg eqGuardType107 isAgg107 sizeOf107 typeInfo107 rfl rfl (EqOk.struct underlying107 stoodInHeld107 typeInfo107 isAgg107 sizeOf107 rfl rfl (EqFs.cons (xs := [_]) (ys := [_]) (by decide) rfl (EqOk.int underlying64 typeInfo64 isAgg64 sizeOf64) rfl (EqFs.cons (xs := [_]) (ys := [_]) (by decide) rfl (EqOk.int underlying3 typeInfo3 isAgg3 sizeOf3) rfl (EqFs.cons (xs := [_]) (ys := [_]) (by decide) rfl (EqOk.int underlying3 typeInfo3 isAgg3 sizeOf3) rfl (EqFs.cons (xs := [_]) (ys := [_]) (by decide) rfl (EqOk.int underlying69 typeInfo69 isAgg69 sizeOf69) rfl (EqFs.cons (xs := [_]) (ys := [_]) (by decide) rfl (EqOk.bool underlying4 typeInfo4 isAgg4 sizeOf4) rfl .nil))))))) ?_)
     refine .v (.pick_false rfl rfl) (.nil ?_)
     exact .keep (Sub.cons rfl (Sub.push rfl (Sub.push rfl (Sub.push rfl (Sub.push rfl (Sub.pushSame hd Sub.rfl'))))))
    ·
     intro g65 hd
     refine .skip rfl rfl rfl (.skip rfl rfl rfl (.skip rfl rfl rfl (.v (.pick_true rfl rfl) (.nil ?_))))
     exact .keep (Sub.cons rfl (Sub.push rfl (Sub.push rfl (Sub.push rfl (Sub.push rfl (Sub.pushSame hd Sub.rfl'))))))
    first | refine .boolOr ?_ | skip
    refine .nil (TQ.then ?_)
    first | refine .cond_dec rfl (fun h4 => ?_) (fun h4 => ?_) | refine .cond rfl (fun h4 => ?_) (fun h4 => ?_)
    ·
     refine .seq (.region (.v (.assign rfl) (.nil (TQ.then (.ret (.then_ret ?_))))))
     exact .ret results126 (.tmp rfl .nil) () (congrArg i64 (if_neg (by unfold Ety.ok; simp [Value.cells] at *; cases ent <;> simp at * <;> omega))) trivial .en
    ·
     refine .skip (TQ.then (.seq (.region (.v (.assign rfl) (.nil (TQ.then (.ret ?_)))))))
     exact .ret results126 (.tmp rfl .nil) () (congrArg i64 (if_pos (by unfold Ety.ok; simp [Value.cells] at *; cases ent <;> simp at * <;> omega))) trivial .en
 ·
  refine .skip (TQ.then (.seq (.seq (.region (.v (.field fo_107_0_WEntry rfl) (.v (.load isAgg64 rfl .tk (by rfl)) ?_))))))
  refine .nil (TQ.then (.block (.seq (.region (.v (.eql rfl rfl) (.v (.assign rfl) (.nil (TQ.then ?_))))))))
  first | refine .cond_dec rfl (fun h2 => ?_) (fun h2 => ?_) | refine .cond rfl (fun h2 => ?_) (fun h2 => ?_)
  ·
   refine .seq (.draw (H := [.row b1 _ _]) (.q 0 (.q 1 (.q 2 (.q 3 (.q 4 (.e 5 (.q 6 (.e 7 .done)))))))) (by kernel_rfl) .pk (by kernel_rfl) (by kernel_rfl) (by kernel_rfl) ?_)
   refine .v rfl (.field fo_107_2_WEntry rfl) (.v rfl (.load isAgg3 rfl .tk (by rfl)) ?_)
   refine .v rfl (.field fo_107_3_WEntry rfl) (.v rfl (.load isAgg69 rfl .tk (by rfl)) ?_)
   refine .v rfl (.field fo_107_2_WEntry rfl) (.eff rfl (fun fu_ li_ hk_ hs_ hl_ => ?_))
   refine .store sizeOf3 rfl rfl rfl .up (by rfl) ?_
   refine .nil (TS.back hk_ hs_ hl_ .pk ?_)
   refine .v rfl (.field fo_107_3_WEntry rfl) (.eff rfl (fun fu_ li_ hk_ hs_ hl_ => ?_))
   refine .store sizeOf69 rfl rfl rfl .up (by rfl) ?_
   refine .nil (TS.back hk_ hs_ hl_ .pk ?_)
   refine .done (TQ.then (.region (.v (.move rfl) (.v (.move rfl) ?_))))
   refine' TL.andG (k := 4) (dj := 39) (d := 43) rfl ?_ ?_ ?_
   rotate_left
   ·
    intro g43 hd
    first | replace g43 := of_decide_eq_true g43 | skip
    refine .want rfl rfl (.v (.field fo_107_2_WEntry rfl) (.want rfl rfl (.v (.load isAgg3 rfl .tk (by rfl)) ?_)))
    refine .want rfl rfl (.call call155 (S_entry_page) rfl .pk rfl (fun x42 hx42 => ?_))
    refine .v (.pick_true rfl rfl) (.nil ?_)
    exact .keepE (Sub.cons rfl (Sub.push rfl (Sub.push rfl (Sub.push rfl (Sub.push rfl (Sub.pushSame hd Sub.rfl')))))) .en
   ·
    intro g43 hd
    refine .skip rfl rfl rfl (.skip rfl rfl rfl (.skip rfl rfl rfl (.v (.pick_false rfl rfl) (.nil ?_))))
    exact .keepE (Sub.cons rfl (Sub.push rfl (Sub.push rfl (Sub.push rfl (Sub.push rfl (Sub.pushSame hd Sub.rfl')))))) .en
   first | refine .boolAnd ?_ | skip
   refine .v (.move rfl) ?_
   refine' TL.andG (k := 4) (dj := 44) (d := 48) rfl ?_ ?_ ?_
   rotate_left
   ·
    intro g48 hd
    first | replace g48 := of_decide_eq_true g48 | skip
    refine .want rfl rfl (.v (.field fo_107_3_WEntry rfl) (.want rfl rfl (.v (.load isAgg69 rfl .tk (by rfl)) ?_)))
    refine .want rfl rfl (.v (.gtr rfl rfl) (.v (.pick_true rfl rfl) (.nil ?_)))
    exact .keep (Sub.cons rfl (Sub.push rfl (Sub.push rfl (Sub.push rfl (Sub.push rfl (Sub.pushSame hd Sub.rfl'))))))
   ·
    intro g48 hd
    refine .skip rfl rfl rfl (.skip rfl rfl rfl (.skip rfl rfl rfl (.v (.pick_false rfl rfl) (.nil ?_))))
    exact .keep (Sub.cons rfl (Sub.push rfl (Sub.push rfl (Sub.push rfl (Sub.push rfl (Sub.pushSame hd Sub.rfl'))))))
   first | refine .boolAnd ?_ | skip
   refine .v (.move rfl) ?_
   refine' TL.andG (k := 4) (dj := 49) (d := 53) rfl ?_ ?_ ?_
   rotate_left
   ·
    intro g53 hd
    first | replace g53 := of_decide_eq_true g53 | skip
    refine .want rfl rfl (.v (.field fo_107_3_WEntry rfl) (.want rfl rfl (.v (.load isAgg69 rfl .tk (by rfl)) ?_)))
    refine .want rfl rfl (.v (.lss rfl rfl) (.v (.pick_true rfl rfl) (.nil ?_)))
    exact .keep (Sub.cons rfl (Sub.push rfl (Sub.push rfl (Sub.push rfl (Sub.push rfl (Sub.pushSame hd Sub.rfl'))))))
   ·
    intro g53 hd
    refine .skip rfl rfl rfl (.skip rfl rfl rfl (.skip rfl rfl rfl (.v (.pick_false rfl rfl) (.nil ?_))))
    exact .keep (Sub.cons rfl (Sub.push rfl (Sub.push rfl (Sub.push rfl (Sub.push rfl (Sub.pushSame hd Sub.rfl'))))))
   first | refine .boolAnd ?_ | skip
   refine .v (.assign rfl) (.nil (.blk_normal (TQ.then (.seq (.seq (.region (.v (.move rfl) (.v (by first | exact Val.not_dec rfl | exact Val.not rfl) ?_))))))))
   refine .v (.move rfl) ?_
   refine' TL.orG (k := 4) (dj := 61) (d := 65) rfl ?_ ?_ ?_
   rotate_left
   ·
    intro g65 hd
    first | replace g65 := of_decide_eq_false g65 | skip
    refine .want rfl rfl (.v (.loadAgg (vs := [_, _, _, _, _]) isAgg107 sizeOf107 rfl .tk (by rfl) (by rfl)) ?_)
    refine .want rfl rfl (.v (.loadAgg (vs := [_, _, _, _, _]) isAgg107 sizeOf107 rfl .tk (by rfl) (by rfl)) ?_)
    refine .want rfl rfl (.v (.neqAg eqGuardType107 isAgg107 sizeOf107 typeInfo107 rfl rfl (EqOk.struct underlying107 stoodInHeld107 typeInfo107 isAgg107 sizeOf107 rfl rfl (EqFs.cons (xs := [_]) (ys := [_]) (by decide) rfl (EqOk.int underlying64 typeInfo64 isAgg64 sizeOf64) rfl (EqFs.cons (xs := [_]) (ys := [_]) (by decide) rfl (EqOk.int underlying3 typeInfo3 isAgg3 sizeOf3) rfl (EqFs.cons (xs := [_]) (ys := [_]) (by decide) rfl (EqOk.int underlying3 typeInfo3 isAgg3 sizeOf3) rfl (EqFs.cons (xs := [_]) (ys := [_]) (by decide) rfl (EqOk.int underlying69 typeInfo69 isAgg69 sizeOf69) rfl (EqFs.cons (xs := [_]) (ys := [_]) (by decide) rfl (EqOk.bool underlying4 typeInfo4 isAgg4 sizeOf4) rfl .nil))))))) ?_)
    refine .v (.pick_false rfl rfl) (.nil ?_)
    exact .keep (Sub.cons rfl (Sub.push rfl (Sub.push rfl (Sub.push rfl (Sub.push rfl (Sub.pushSame hd Sub.rfl'))))))
   ·
    intro g65 hd
    refine .skip rfl rfl rfl (.skip rfl rfl rfl (.skip rfl rfl rfl (.v (.pick_true rfl rfl) (.nil ?_))))
    exact .keep (Sub.cons rfl (Sub.push rfl (Sub.push rfl (Sub.push rfl (Sub.push rfl (Sub.pushSame hd Sub.rfl'))))))
   first | refine .boolOr ?_ | skip
   refine .nil (TQ.then ?_)
   first | refine .cond_dec rfl (fun h3 => ?_) (fun h3 => ?_) | refine .cond rfl (fun h3 => ?_) (fun h3 => ?_)
   ·
    refine .seq (.region (.v (.assign rfl) (.nil (TQ.then (.ret (.then_ret ?_))))))
    exact .ret results126 (.tmp rfl .nil) () (congrArg i64 (if_neg (by unfold Ety.ok; simp [Value.cells] at *; cases ent <;> simp at * <;> omega))) trivial .en
   ·
    refine .skip (TQ.then (.seq (.region (.v (.assign rfl) (.nil (TQ.then (.ret ?_)))))))
    exact .ret results126 (.tmp rfl .nil) () (congrArg i64 (if_pos (by unfold Ety.ok; simp [Value.cells] at *; cases ent <;> simp at * <;> omega))) trivial .en
  ·
   refine .seq (.region (.v (.eql rfl rfl) (.v (.assign rfl) (.nil (TQ.then ?_)))))
   first | refine .cond_dec rfl (fun h3 => ?_) (fun h3 => ?_) | refine .cond rfl (fun h3 => ?_) (fun h3 => ?_)
   ·
    refine .region (.v (.field fo_107_4_WEntry rfl) (.v (.load isAgg4 rfl .tk (by rfl)) ?_))
    refine .v (.field fo_107_4_WEntry rfl) (.store sizeOf4 rfl rfl rfl .up (by rfl) ?_)
    refine .nil (.blk_normal (TQ.then (.seq (.seq (.region (.v (.move rfl) (.v (by first | exact Val.not_dec rfl | exact Val.not rfl) ?_)))))))
    refine .v (.move rfl) ?_
    refine' TL.orG (k := 4) (dj := 61) (d := 65) rfl ?_ ?_ ?_
    rotate_left
    ·
     intro g65 hd
     first | replace g65 := of_decide_eq_false g65 | skip
     refine .want rfl rfl (.v (.loadAgg (vs := [_, _, _, _, _]) isAgg107 sizeOf107 rfl .tk (by rfl) (by rfl)) ?_)
     refine .want rfl rfl (.v (.loadAgg (vs := [_, _, _, _, _]) isAgg107 sizeOf107 rfl .tk (by rfl) (by rfl)) ?_)
     refine .want rfl rfl (.v (.neqAg eqGuardType107 isAgg107 sizeOf107 typeInfo107 rfl rfl (EqOk.struct underlying107 stoodInHeld107 typeInfo107 isAgg107 sizeOf107 rfl rfl (EqFs.cons (xs := [_]) (ys := [_]) (by decide) rfl (EqOk.int underlying64 typeInfo64 isAgg64 sizeOf64) rfl (EqFs.cons (xs := [_]) (ys := [_]) (by decide) rfl (EqOk.int underlying3 typeInfo3 isAgg3 sizeOf3) rfl (EqFs.cons (xs := [_]) (ys := [_]) (by decide) rfl (EqOk.int underlying3 typeInfo3 isAgg3 sizeOf3) rfl (EqFs.cons (xs := [_]) (ys := [_]) (by decide) rfl (EqOk.int underlying69 typeInfo69 isAgg69 sizeOf69) rfl (EqFs.cons (xs := [_]) (ys := [_]) (by decide) rfl (EqOk.bool underlying4 typeInfo4 isAgg4 sizeOf4) rfl .nil))))))) ?_)
     refine .v (.pick_false rfl rfl) (.nil ?_)
     exact .keep (Sub.cons rfl (Sub.push rfl (Sub.push rfl (Sub.push rfl (Sub.push rfl (Sub.pushSame hd Sub.rfl'))))))
    ·
     intro g65 hd
     refine .skip rfl rfl rfl (.skip rfl rfl rfl (.skip rfl rfl rfl (.v (.pick_true rfl rfl) (.nil ?_))))
     exact .keep (Sub.cons rfl (Sub.push rfl (Sub.push rfl (Sub.push rfl (Sub.push rfl (Sub.pushSame hd Sub.rfl'))))))
    first | refine .boolOr ?_ | skip
    refine .nil (TQ.then ?_)
    first | refine .cond_dec rfl (fun h4 => ?_) (fun h4 => ?_) | refine .cond rfl (fun h4 => ?_) (fun h4 => ?_)
    ·
     refine .seq (.region (.v (.assign rfl) (.nil (TQ.then (.ret (.then_ret ?_))))))
     exact .ret results126 (.tmp rfl .nil) () (congrArg i64 (if_neg (by unfold Ety.ok; simp [Value.cells] at *; cases ent <;> simp at * <;> omega))) trivial .en
    ·
     refine .skip (TQ.then (.seq (.region (.v (.assign rfl) (.nil (TQ.then (.ret ?_)))))))
     exact .ret results126 (.tmp rfl .nil) () (congrArg i64 (if_pos (by unfold Ety.ok; simp [Value.cells] at *; cases ent <;> simp at * <;> omega))) trivial .en
   ·
    refine .skip (.blk_normal (TQ.then (.seq (.seq (.region (.v (.move rfl) (.v (by first | exact Val.not_dec rfl | exact Val.not rfl) ?_)))))))
    refine .v (.move rfl) ?_
    refine' TL.orG (k := 4) (dj := 61) (d := 65) rfl ?_ ?_ ?_
    rotate_left
    ·
     intro g65 hd
     first | replace g65 := of_decide_eq_false g65 | skip
     refine .want rfl rfl (.v (.loadAgg (vs := [_, _, _, _, _]) isAgg107 sizeOf107 rfl .tk (by rfl) (by rfl)) ?_)
     refine .want rfl rfl (.v (.loadAgg (vs := [_, _, _, _, _]) isAgg107 sizeOf107 rfl .tk (by rfl) (by rfl)) ?_)
     refine .want rfl rfl (.v (.neqAg eqGuardType107 isAgg107 sizeOf107 typeInfo107 rfl rfl (EqOk.struct underlying107 stoodInHeld107 typeInfo107 isAgg107 sizeOf107 rfl rfl (EqFs.cons (xs := [_]) (ys := [_]) (by decide) rfl (EqOk.int underlying64 typeInfo64 isAgg64 sizeOf64) rfl (EqFs.cons (xs := [_]) (ys := [_]) (by decide) rfl (EqOk.int underlying3 typeInfo3 isAgg3 sizeOf3) rfl (EqFs.cons (xs := [_]) (ys := [_]) (by decide) rfl (EqOk.int underlying3 typeInfo3 isAgg3 sizeOf3) rfl (EqFs.cons (xs := [_]) (ys := [_]) (by decide) rfl (EqOk.int underlying69 typeInfo69 isAgg69 sizeOf69) rfl (EqFs.cons (xs := [_]) (ys := [_]) (by decide) rfl (EqOk.bool underlying4 typeInfo4 isAgg4 sizeOf4) rfl .nil))))))) ?_)
     refine .v (.pick_false rfl rfl) (.nil ?_)
     exact .keep (Sub.cons rfl (Sub.push rfl (Sub.push rfl (Sub.push rfl (Sub.push rfl (Sub.pushSame hd Sub.rfl'))))))
    ·
     intro g65 hd
     refine .skip rfl rfl rfl (.skip rfl rfl rfl (.skip rfl rfl rfl (.v (.pick_true rfl rfl) (.nil ?_))))
     exact .keep (Sub.cons rfl (Sub.push rfl (Sub.push rfl (Sub.push rfl (Sub.push rfl (Sub.pushSame hd Sub.rfl'))))))
    first | refine .boolOr ?_ | skip
    refine .nil (TQ.then ?_)
    first | refine .cond_dec rfl (fun h4 => ?_) (fun h4 => ?_) | refine .cond rfl (fun h4 => ?_) (fun h4 => ?_)
    ·
     refine .seq (.region (.v (.assign rfl) (.nil (TQ.then (.ret (.then_ret ?_))))))
     exact .ret results126 (.tmp rfl .nil) () (congrArg i64 (if_neg (by unfold Ety.ok; simp [Value.cells] at *; cases ent <;> simp at * <;> omega))) trivial .en
    ·
     refine .skip (TQ.then (.seq (.region (.v (.assign rfl) (.nil (TQ.then (.ret ?_)))))))
     exact .ret results126 (.tmp rfl .nil) () (congrArg i64 (if_pos (by unfold Ety.ok; simp [Value.cells] at *; cases ent <;> simp at * <;> omega))) trivial .en

set_option maxHeartbeats 400000 in
theorem S_entry_Encode {e : Ety} : Spec prog 93 [e.val].toArray [] (fun _ : Unit => True) (fun _ => .tuple #[.agg #[w32 e.e0, w32 e.e1], i64 e.check]) (fun _ => []) := by
 refine Spec.body func93 rfl ntmps93 rfl (fun σ R => ?_)
 refine .seq (.region (.box (vs := [_, _, _, _, _]) rfl rfl rfl (fun b1 => ?_)))
 refine .alloc zeroValue155 rfl rfl (fun b2 => ?_)
 refine .v (.assign rfl) (.nil (TQ.then (.seq (.seq (.region (.v (.loadAgg (vs := [_, _, _, _, _]) isAgg107 sizeOf107 rfl .tk (by rfl) (by rfl)) ?_))))))
 refine .call call126 (S_entry_Check) rfl .pk rfl (fun x6 hx6 => ?_)
 refine .v (.neq rfl rfl) (.nil (TQ.then ?_))
 first | refine .cond_dec rfl (fun h1 => ?_) (fun h1 => ?_) | refine .cond rfl (fun h1 => ?_) (fun h1 => ?_)
 ·
  refine .seq (.region (.v (.buildArr (cs := [_, _]) zeroValue155 underlying155 sizeOf23 rfl rfl) ?_))
  refine .storeAll (us := [_, _]) sizeOf155 rfl rfl rfl rfl .up rfl ?_
  refine .v (.assign rfl) (.nil (TQ.then (.ret (.then_ret ?_))))
  exact .ret results93 (.agg isAgg155 sizeOf155 rfl .tk (by rfl) (by rfl) (.tmp rfl .nil)) () (by have := Ety.enc_bad h1; simp only [Ety.enc, List.cons.injEq, and_true] at this; rw [this.1.1, this.1.2, this.2]; rfl) trivial .en
 ·
  refine .skip (TQ.then (.seq (.region (.v (.field fo_107_0_WEntry rfl) (.v (.load isAgg64 rfl .tk (by rfl)) ?_)))))
  refine .v (.conv_64_32 underlying64 underlying23 rfl) ?_
  refine .v (.shl32 (k := 0) (by decide) rfl rfl) ?_
  refine .v (.field fo_107_3_WEntry rfl) (.v (.load isAgg69 rfl .tk (by rfl)) ?_)
  refine .v (.conv_64_32 underlying69 underlying23 rfl) ?_
  refine .v (.shl32 (k := 4) (by decide) rfl rfl) ?_
  refine .v (.or32 rfl rfl) (.v (.field fo_107_1_WEntry rfl) (.v (.load isAgg3 rfl .tk (by rfl)) ?_))
  refine .v (.conv_64_32 underlying3 underlying23 rfl) ?_
  refine .v (.shl32 (k := 16) (by decide) rfl rfl) ?_
  refine .v (.or32 rfl rfl) (.v (.assign rfl) (.nil (TQ.then (.seq (.seq (.region (.v (.field fo_107_4_WEntry rfl) (.v (.load isAgg4 rfl .tk (by rfl)) ?_))))))))
  refine .nil (TQ.then ?_)
  first | refine .cond_dec rfl (fun h2 => ?_) (fun h2 => ?_) | refine .cond rfl (fun h2 => ?_) (fun h2 => ?_)
  ·
   refine .region (.v (.move rfl) (.v (.or32 (b := 256#32) rfl rfl) (.v (.assign rfl) (.nil (TQ.then (.seq (.region (.v (.move rfl) (.v (.field fo_107_2_WEntry rfl) (.v (.load isAgg3 rfl .tk (by rfl)) ?_))))))))))
   refine .v (.conv_64_32 underlying3 underlying23 rfl) ?_
   refine .v (.buildArr (cs := [_, _]) zeroValue155 underlying155 sizeOf23 rfl rfl) ?_
   refine .storeAll (us := [_, _]) sizeOf155 rfl rfl rfl rfl .up rfl ?_
   refine .v (.assign rfl) (.nil (TQ.then (.ret ?_)))
   exact .ret results93 (.agg isAgg155 sizeOf155 rfl .tk (by rfl) (by rfl) (.tmp rfl .nil)) () (by have := Ety.enc_good (e := e) (by omega); simp only [Ety.enc, List.cons.injEq, and_true] at this; rw [this.1, this.2, h2, show e.check = 0 by omega]; rfl) trivial .en
  ·
   refine .skip (TQ.then (.seq (.region (.v (.move rfl) (.v (.field fo_107_2_WEntry rfl) (.v (.load isAgg3 rfl .tk (by rfl)) ?_))))))
   refine .v (.conv_64_32 underlying3 underlying23 rfl) ?_
   refine .v (.buildArr (cs := [_, _]) zeroValue155 underlying155 sizeOf23 rfl rfl) ?_
   refine .storeAll (us := [_, _]) sizeOf155 rfl rfl rfl rfl .up rfl ?_
   refine .v (.assign rfl) (.nil (TQ.then (.ret ?_)))
   exact .ret results93 (.agg isAgg155 sizeOf155 rfl .tk (by rfl) (by rfl) (.tmp rfl .nil)) () (by have := Ety.enc_good (e := e) (by omega); simp only [Ety.enc, List.cons.injEq, and_true] at this; rw [this.1, this.2, h2, show e.check = 0 by omega]; simp [tup, w32s, Value.cells]) trivial .en

set_option maxHeartbeats 400000 in
theorem S_entry_Decode {a b : W} : Spec prog 92 [.agg #[w32 a, w32 b]].toArray [] (fun _ : Unit => True) (fun _ => .tuple #[(Ety.dec a b).1.val, i64 (Ety.dec a b).2]) (fun _ => []) := by
 refine Spec.body func92 rfl ntmps92 rfl (fun σ R => ?_)
 refine .seq (.region (.box (vs := [_, _]) rfl rfl rfl (fun b1 => ?_)))
 refine .alloc zeroValue107 rfl rfl (fun b2 => ?_)
 refine .v (.assign rfl) (.nil (TQ.then (.seq (.region (.v (.ixArr1 underlying155 sizeOf23 rfl rfl (by omega)) ?_)))))
 refine .v (.load isAgg23 rfl .tk (by rfl)) ?_
 refine .v (.shr32 (k := 0) (by decide) rfl rfl) ?_
 refine .v (.and32 (b := 7#32) rfl rfl) (.v (.conv_32_64 underlying23 underlying64 rfl) ?_)
 refine .v (.ixArr1 underlying155 sizeOf23 rfl rfl (by omega)) ?_
 refine .v (.load isAgg23 rfl .tk (by rfl)) ?_
 refine .v (.shr32 (k := 4) (by decide) rfl rfl) ?_
 refine .v (.and32 (b := 3#32) rfl rfl) (.v (.conv_32_64 underlying23 underlying69 rfl) ?_)
 refine .v (.ixArr1 underlying155 sizeOf23 rfl rfl (by omega)) ?_
 refine .v (.load isAgg23 rfl .tk (by rfl)) ?_
 refine .v (.shr32 (k := 8) (by decide) rfl rfl) ?_
 refine .v (.and32 (b := 1#32) rfl rfl) (.v (.eql32 (b := 1#32) rfl rfl) ?_)
 refine .v (.ixArr1 underlying155 sizeOf23 rfl rfl (by omega)) ?_
 refine .v (.load isAgg23 rfl .tk (by rfl)) ?_
 refine .v (.shr32 (k := 16) (by decide) rfl rfl) ?_
 refine .v (.and32 (b := 63#32) rfl rfl) (.v (.conv_32_64 underlying23 underlying3 rfl) ?_)
 refine .v (.ixArr1 underlying155 sizeOf23 rfl rfl (by omega)) ?_
 refine .v (.load isAgg23 rfl .tk (by rfl)) ?_
 refine .v (.and32 (b := 63#32) rfl rfl) (.v (.conv_32_64 underlying23 underlying3 rfl) ?_)
 refine .v (.build (cs := [_, _, _, _, _]) zeroValue107 pl_107_WEntry rfl rfl) ?_
 refine .alloc zeroValue107 rfl rfl (fun b4 => ?_)
 refine .storeAll (us := [_, _, _, _, _]) sizeOf107 rfl rfl rfl rfl .up rfl ?_
 refine .nil (TQ.then (.seq (.seq (.region (.v (.loadAgg (vs := [_, _, _, _, _]) isAgg107 sizeOf107 rfl .tk (by rfl) (by rfl)) ?_)))))
 refine .call call93 (S_entry_Encode (e := ⟨(a >>> 0 &&& 7#32).toNat, (a >>> 16 &&& 63#32).toNat, (b &&& 63#32).toNat, (a >>> 4 &&& 3#32).toNat, decide ((a >>> 8 &&& 1#32) = 1#32)⟩)) rfl .pk rfl (fun x34 hx34 => ?_)
 refine .v (.move rfl) (.v (.extract rfl rfl) (.v (.extract rfl rfl) (.alloc zeroValue155 rfl rfl (fun b5 => ?_))))
 refine .storeAll (us := [_, _]) sizeOf155 rfl rfl rfl rfl .up rfl ?_
 refine .v (.assign rfl) (.nil (TQ.then (.seq (.region (.v (.move rfl) (.v (.neq rfl rfl) (.v (.move rfl) ?_)))))))
 refine' TL.orG (k := 4) (dj := 39) (d := 43) rfl ?_ ?_ ?_
 rotate_left
 ·
  intro g43 hd
  first | replace g43 := of_decide_eq_false g43 | skip
  refine .want rfl rfl (.v (.loadAgg (vs := [_, _]) isAgg155 sizeOf155 rfl .tk (by rfl) (by rfl)) ?_)
  refine .want rfl rfl (.v (.loadAgg (vs := [_, _]) isAgg155 sizeOf155 rfl .tk (by rfl) (by rfl)) ?_)
  refine .want rfl rfl (.v (.neqAg eqGuardType155 isAgg155 sizeOf155 typeInfo155 rfl rfl (EqOk.words underlying155 underlying23 typeInfo23 isAgg23 sizeOf23 typeInfo155 isAgg155 sizeOf155 _ [a, b] Ety.enc_len rfl)) ?_)
  refine .v (.pick_false rfl rfl) (.nil ?_)
  exact .keep (Sub.cons rfl (Sub.push rfl (Sub.push rfl (Sub.push rfl (Sub.push rfl (Sub.pushSame hd Sub.rfl'))))))
 ·
  intro g43 hd
  refine .skip rfl rfl rfl (.skip rfl rfl rfl (.skip rfl rfl rfl (.v (.pick_true rfl rfl) (.nil ?_))))
  exact .keep (Sub.cons rfl (Sub.push rfl (Sub.push rfl (Sub.push rfl (Sub.push rfl (Sub.pushSame hd Sub.rfl'))))))
 first | refine .boolOr ?_ | skip
 refine .nil (TQ.then ?_)
 first | refine .cond_dec rfl (fun h1 => ?_) (fun h1 => ?_) | refine .cond rfl (fun h1 => ?_) (fun h1 => ?_)
 ·
  refine .seq (.region (.v (.build (cs := [_, _, _, _, _]) zeroValue107 pl_107_WEntry rfl rfl) ?_))
  refine .storeAll (us := [_, _, _, _, _]) sizeOf107 rfl rfl rfl rfl .up rfl ?_
  refine .v (.assign rfl) (.nil (TQ.then (.ret (.then_ret ?_))))
  exact .ret results92 (.agg isAgg107 sizeOf107 rfl .tk (by rfl) (by rfl) (.tmp rfl .nil)) () (by rw [Ety.dec_bad Ety.split_bits h1]; rfl) trivial .en
 ·
  refine .skip (TQ.then (.seq (.region (.v (.loadAgg (vs := [_, _, _, _, _]) isAgg107 sizeOf107 rfl .tk (by rfl) (by rfl)) ?_))))
  refine .storeAll (us := [_, _, _, _, _]) sizeOf107 rfl rfl rfl rfl .up rfl ?_
  refine .v (.assign rfl) (.nil (TQ.then (.ret ?_)))
  exact .ret results92 (.agg isAgg107 sizeOf107 rfl .tk (by rfl) (by rfl) (.tmp rfl .nil)) () (by rw [Ety.dec_good Ety.split_bits h1]; rfl) trivial .en

theorem fo_104_0_WEntry : FieldOff prog 104 0 0 := FieldOff.of 3 1 underlying104 rfl sizeOf3 rfl
theorem fo_104_1_WEntry : FieldOff prog 104 1 1 := FieldOff.of 3 1 underlying104 rfl sizeOf3 rfl
theorem fo_104_2_WEntry : FieldOff prog 104 2 2 := FieldOff.of 3 1 underlying104 rfl sizeOf3 rfl
theorem fo_104_3_WEntry : FieldOff prog 104 3 3 := FieldOff.of 3 1 underlying104 rfl sizeOf3 rfl
theorem fo_104_4_WEntry : FieldOff prog 104 4 4 := FieldOff.of 4 1 underlying104 rfl sizeOf4 rfl
set_option maxHeartbeats 400000 in
theorem S_wardenref11_Check {e : Ety} : Spec prog 125 [e.val].toArray [] (fun _ : Unit => True) (fun _ => i64 e.check) (fun _ => []) := by
 obtain ⟨ty, own, refs, st, ent⟩ := e
 dsimp only [Ety.val, Ety.cells]
 refine Spec.body func125 rfl ntmps125 rfl (fun σ R => ?_)
 refine .seq (.region (.box (vs := [_, _, _, _, _]) rfl rfl rfl (fun b1 => ?_)))
 refine .v (.assign rfl) (.nil (TQ.then (.seq (.seq (.region (.v (.field fo_104_0_WEntry rfl) (.v (.load isAgg3 rfl .tk (by rfl)) ?_)))))))
 refine .v (.lss rfl rfl) (.v (.move rfl) ?_)
 refine' TL.orG (k := 4) (dj := 6) (d := 10) rfl ?_ ?_ ?_
 rotate_left
 ·
  intro g10 hd
  first | replace g10 := of_decide_eq_false g10 | skip
  refine .want rfl rfl (.v (.field fo_104_0_WEntry rfl) (.want rfl rfl (.v (.load isAgg3 rfl .tk (by rfl)) ?_)))
  refine .want rfl rfl (.v (.gtr rfl rfl) (.v (.pick_false rfl rfl) (.nil ?_)))
  exact .keep (Sub.cons rfl (Sub.push rfl (Sub.push rfl (Sub.push rfl (Sub.push rfl (Sub.pushSame hd Sub.rfl'))))))
 ·
  intro g10 hd
  refine .skip rfl rfl rfl (.skip rfl rfl rfl (.skip rfl rfl rfl (.v (.pick_true rfl rfl) (.nil ?_))))
  exact .keep (Sub.cons rfl (Sub.push rfl (Sub.push rfl (Sub.push rfl (Sub.push rfl (Sub.pushSame hd Sub.rfl'))))))
 first | refine .boolOr ?_ | skip
 refine .v (.move rfl) ?_
 refine' TL.orG (k := 4) (dj := 11) (d := 15) rfl ?_ ?_ ?_
 rotate_left
 ·
  intro g15 hd
  first | replace g15 := of_decide_eq_false g15 | skip
  refine .want rfl rfl (.v (.field fo_104_1_WEntry rfl) (.want rfl rfl (.v (.load isAgg3 rfl .tk (by rfl)) ?_)))
  refine .want rfl rfl (.v (.lss rfl rfl) (.v (.pick_false rfl rfl) (.nil ?_)))
  exact .keep (Sub.cons rfl (Sub.push rfl (Sub.push rfl (Sub.push rfl (Sub.push rfl (Sub.pushSame hd Sub.rfl'))))))
 ·
  intro g15 hd
  refine .skip rfl rfl rfl (.skip rfl rfl rfl (.skip rfl rfl rfl (.v (.pick_true rfl rfl) (.nil ?_))))
  exact .keep (Sub.cons rfl (Sub.push rfl (Sub.push rfl (Sub.push rfl (Sub.push rfl (Sub.pushSame hd Sub.rfl'))))))
 first | refine .boolOr ?_ | skip
 refine .v (.move rfl) ?_
 refine' TL.orG (k := 4) (dj := 16) (d := 20) rfl ?_ ?_ ?_
 rotate_left
 ·
  intro g20 hd
  first | replace g20 := of_decide_eq_false g20 | skip
  refine .want rfl rfl (.v (.field fo_104_1_WEntry rfl) (.want rfl rfl (.v (.load isAgg3 rfl .tk (by rfl)) ?_)))
  refine .want rfl rfl (.v (.gtr rfl rfl) (.v (.pick_false rfl rfl) (.nil ?_)))
  exact .keep (Sub.cons rfl (Sub.push rfl (Sub.push rfl (Sub.push rfl (Sub.push rfl (Sub.pushSame hd Sub.rfl'))))))
 ·
  intro g20 hd
  refine .skip rfl rfl rfl (.skip rfl rfl rfl (.skip rfl rfl rfl (.v (.pick_true rfl rfl) (.nil ?_))))
  exact .keep (Sub.cons rfl (Sub.push rfl (Sub.push rfl (Sub.push rfl (Sub.push rfl (Sub.pushSame hd Sub.rfl'))))))
 first | refine .boolOr ?_ | skip
 refine .v (.move rfl) ?_
 refine' TL.orG (k := 4) (dj := 21) (d := 25) rfl ?_ ?_ ?_
 rotate_left
 ·
  intro g25 hd
  first | replace g25 := of_decide_eq_false g25 | skip
  refine .want rfl rfl (.v (.field fo_104_2_WEntry rfl) (.want rfl rfl (.v (.load isAgg3 rfl .tk (by rfl)) ?_)))
  refine .want rfl rfl (.v (.lss rfl rfl) (.v (.pick_false rfl rfl) (.nil ?_)))
  exact .keep (Sub.cons rfl (Sub.push rfl (Sub.push rfl (Sub.push rfl (Sub.push rfl (Sub.pushSame hd Sub.rfl'))))))
 ·
  intro g25 hd
  refine .skip rfl rfl rfl (.skip rfl rfl rfl (.skip rfl rfl rfl (.v (.pick_true rfl rfl) (.nil ?_))))
  exact .keep (Sub.cons rfl (Sub.push rfl (Sub.push rfl (Sub.push rfl (Sub.push rfl (Sub.pushSame hd Sub.rfl'))))))
 first | refine .boolOr ?_ | skip
 refine .v (.move rfl) ?_
 refine' TL.orG (k := 4) (dj := 26) (d := 30) rfl ?_ ?_ ?_
 rotate_left
 ·
  intro g30 hd
  first | replace g30 := of_decide_eq_false g30 | skip
  refine .want rfl rfl (.v (.field fo_104_2_WEntry rfl) (.want rfl rfl (.v (.load isAgg3 rfl .tk (by rfl)) ?_)))
  refine .want rfl rfl (.v (.gtr rfl rfl) (.v (.pick_false rfl rfl) (.nil ?_)))
  exact .keep (Sub.cons rfl (Sub.push rfl (Sub.push rfl (Sub.push rfl (Sub.push rfl (Sub.pushSame hd Sub.rfl'))))))
 ·
  intro g30 hd
  refine .skip rfl rfl rfl (.skip rfl rfl rfl (.skip rfl rfl rfl (.v (.pick_true rfl rfl) (.nil ?_))))
  exact .keep (Sub.cons rfl (Sub.push rfl (Sub.push rfl (Sub.push rfl (Sub.push rfl (Sub.pushSame hd Sub.rfl'))))))
 first | refine .boolOr ?_ | skip
 refine .nil (TQ.then ?_)
 first | refine .cond_dec rfl (fun h1 => ?_) (fun h1 => ?_) | refine .cond rfl (fun h1 => ?_) (fun h1 => ?_)
 ·
  refine .seq (.region (.v (.assign rfl) (.nil (TQ.then (.ret (.then_ret ?_))))))
  exact .ret results125 (.tmp rfl .nil) () (congrArg i64 (if_neg (by unfold Ety.ok; simp [Value.cells] at *; cases ent <;> simp at * <;> omega))) trivial .en
 ·
  refine .skip (TQ.then (.seq (.seq (.region (.v (.field fo_104_0_WEntry rfl) (.v (.load isAgg3 rfl .tk (by rfl)) ?_))))))
  refine .v (.eql rfl rfl) (.v (.move rfl) ?_)
  refine' TL.andG (k := 4) (dj := 34) (d := 38) rfl ?_ ?_ ?_
  rotate_left
  ·
   intro g38 hd
   first | replace g38 := of_decide_eq_true g38 | skip
   refine .want rfl rfl (.v (.field fo_104_1_WEntry rfl) (.want rfl rfl (.v (.load isAgg3 rfl .tk (by rfl)) ?_)))
   refine .want rfl rfl (.v (.neq rfl rfl) (.v (.pick_true rfl rfl) (.nil ?_)))
   exact .keep (Sub.cons rfl (Sub.push rfl (Sub.push rfl (Sub.push rfl (Sub.push rfl (Sub.pushSame hd Sub.rfl'))))))
  ·
   intro g38 hd
   refine .skip rfl rfl rfl (.skip rfl rfl rfl (.skip rfl rfl rfl (.v (.pick_false rfl rfl) (.nil ?_))))
   exact .keep (Sub.cons rfl (Sub.push rfl (Sub.push rfl (Sub.push rfl (Sub.push rfl (Sub.pushSame hd Sub.rfl'))))))
  first | refine .boolAnd ?_ | skip
  refine .v (.move rfl) ?_
  refine' TL.orG (k := 14) (dj := 39) (d := 53) rfl ?_ ?_ ?_
  rotate_left
  ·
   intro g53 hd
   first | replace g53 := of_decide_eq_false g53 | skip
   refine .want rfl rfl (.v (.field fo_104_0_WEntry rfl) (.want rfl rfl (.v (.load isAgg3 rfl .tk (by rfl)) ?_)))
   refine .want rfl rfl (.v (.neq rfl rfl) (.want rfl rfl (.v (.move rfl) ?_)))
   refine' TL.andG (k := 9) (dj := 43) (d := 52) rfl ?_ ?_ ?_
   rotate_left
   ·
    intro g52 hd
    first | replace g52 := of_decide_eq_true g52 | skip
    refine .want rfl rfl (.v (.field fo_104_2_WEntry rfl) (.want rfl rfl (.v (.load isAgg3 rfl .tk (by rfl)) ?_)))
    refine .want rfl rfl (.v (.neq rfl rfl) (.want rfl rfl (.v (.move rfl) ?_)))
    refine' TL.orG (k := 4) (dj := 47) (d := 51) rfl ?_ ?_ ?_
    rotate_left
    ·
     intro g51 hd
     first | replace g51 := of_decide_eq_false g51 | skip
     refine .want rfl rfl (.v (.field fo_104_3_WEntry rfl) (.want rfl rfl (.v (.load isAgg3 rfl .tk (by rfl)) ?_)))
     refine .want rfl rfl (.v (.neq rfl rfl) (.want rfl rfl (.v (.pick_false rfl rfl) (.nil ?_))))
     exact .keep (Sub.cons rfl (Sub.push rfl (Sub.push rfl (Sub.push rfl (Sub.push rfl (Sub.pushSame hd Sub.rfl'))))))
    ·
     intro g51 hd
     refine .skip rfl rfl rfl (.skip rfl rfl rfl (.skip rfl rfl rfl (.want rfl rfl (.v (.pick_true rfl rfl) (.nil ?_)))))
     exact .keep (Sub.cons rfl (Sub.push rfl (Sub.push rfl (Sub.push rfl (Sub.push rfl (Sub.pushSame hd Sub.rfl'))))))
    first | refine .boolOr ?_ | skip
    refine .want rfl rfl (.v (.pick_true rfl rfl) (.nil ?_))
    exact .keep (Sub.cons rfl (Sub.push rfl (Sub.push rfl (Sub.push rfl (Sub.push rfl (Sub.push rfl (Sub.push rfl (Sub.pushSame hd Sub.rfl'))))))))
   ·
    intro g52 hd
    refine .skip rfl rfl rfl (.skip rfl rfl rfl (.skip rfl rfl rfl (.skip rfl rfl rfl (.skip_undef rfl rfl rfl (.skip_undef rfl rfl rfl (.skip_undef rfl rfl rfl (.skip rfl rfl rfl (.want rfl rfl (.v (.pick_false rfl rfl) (.nil ?_))))))))))
    exact .keep (Sub.cons rfl (Sub.push rfl (Sub.push rfl (Sub.push rfl (Sub.push rfl (Sub.push rfl (Sub.push rfl (Sub.push rfl (Sub.push rfl (Sub.push rfl (Sub.pushSame hd Sub.rfl')))))))))))
   first | refine .boolAnd ?_ | skip
   refine .v (.pick_false rfl rfl) (.nil ?_)
   exact .keep (Sub.cons rfl (Sub.push rfl (Sub.push rfl (Sub.push rfl (Sub.push rfl (Sub.push rfl (Sub.push rfl (Sub.pushSame hd Sub.rfl'))))))))
  ·
   intro g53 hd
   refine .skip rfl rfl rfl (.skip rfl rfl rfl (.skip rfl rfl rfl (.skip rfl rfl rfl (.skip_undef rfl rfl rfl (.skip_undef rfl rfl rfl (.skip_undef rfl rfl rfl (.skip_undef rfl rfl rfl (.skip_undef rfl rfl rfl (.skip_undef rfl rfl rfl (.skip_undef rfl rfl rfl (.skip_undef rfl rfl rfl (.skip rfl rfl rfl (.v (.pick_true rfl rfl) (.nil ?_))))))))))))))
   exact .keep (Sub.cons rfl (Sub.push rfl (Sub.push rfl (Sub.push rfl (Sub.push rfl (Sub.push rfl (Sub.push rfl (Sub.push rfl (Sub.push rfl (Sub.push rfl (Sub.push rfl (Sub.push rfl (Sub.push rfl (Sub.push rfl (Sub.push rfl (Sub.pushSame hd Sub.rfl'))))))))))))))))
  first | refine .boolOr ?_ | skip
  refine .v (.move rfl) ?_
  refine' TL.orG (k := 8) (dj := 54) (d := 62) rfl ?_ ?_ ?_
  rotate_left
  ·
   intro g62 hd
   first | replace g62 := of_decide_eq_false g62 | skip
   refine .want rfl rfl (.v (.field fo_104_0_WEntry rfl) (.want rfl rfl (.v (.load isAgg3 rfl .tk (by rfl)) ?_)))
   refine .want rfl rfl (.v (.neq rfl rfl) (.want rfl rfl (.v (.move rfl) ?_)))
   refine' TL.andG (k := 3) (dj := 58) (d := 61) rfl ?_ ?_ ?_
   rotate_left
   ·
    intro g61 hd
    first | replace g61 := of_decide_eq_true g61 | skip
    refine .want rfl rfl (.v (.field fo_104_4_WEntry rfl) (.want rfl rfl (.v (.load isAgg4 rfl .tk (by rfl)) ?_)))
    refine .want rfl rfl (.v (.pick_true rfl rfl) (.nil ?_))
    exact .keep (Sub.cons rfl (Sub.push rfl (Sub.push rfl (Sub.push rfl (Sub.pushSame hd Sub.rfl')))))
   ·
    intro g61 hd
    refine .skip rfl rfl rfl (.skip rfl rfl rfl (.want rfl rfl (.v (.pick_false rfl rfl) (.nil ?_))))
    exact .keep (Sub.cons rfl (Sub.push rfl (Sub.push rfl (Sub.push rfl (Sub.pushSame hd Sub.rfl')))))
   first | refine .boolAnd ?_ | skip
   refine .v (.pick_false rfl rfl) (.nil ?_)
   exact .keep (Sub.cons rfl (Sub.push rfl (Sub.push rfl (Sub.push rfl (Sub.push rfl (Sub.push rfl (Sub.push rfl (Sub.pushSame hd Sub.rfl'))))))))
  ·
   intro g62 hd
   refine .skip rfl rfl rfl (.skip rfl rfl rfl (.skip rfl rfl rfl (.skip rfl rfl rfl (.skip_undef rfl rfl rfl (.skip_undef rfl rfl rfl (.skip rfl rfl rfl (.v (.pick_true rfl rfl) (.nil ?_))))))))
   exact .keep (Sub.cons rfl (Sub.push rfl (Sub.push rfl (Sub.push rfl (Sub.push rfl (Sub.push rfl (Sub.push rfl (Sub.push rfl (Sub.push rfl (Sub.pushSame hd Sub.rfl'))))))))))
  first | refine .boolOr ?_ | skip
  refine .nil (TQ.then ?_)
  first | refine .cond_dec rfl (fun h2 => ?_) (fun h2 => ?_) | refine .cond rfl (fun h2 => ?_) (fun h2 => ?_)
  ·
   refine .seq (.region (.v (.assign rfl) (.nil (TQ.then (.ret (.then_ret ?_))))))
   exact .ret results125 (.tmp rfl .nil) () (congrArg i64 (if_neg (by unfold Ety.ok; simp [Value.cells] at *; cases ent <;> simp at * <;> omega))) trivial .en
  ·
   refine .skip (TQ.then (.seq (.seq (.region (.v (.field fo_104_0_WEntry rfl) (.v (.load isAgg3 rfl .tk (by rfl)) ?_))))))
   refine .v (.eql rfl rfl) (.v (.move rfl) ?_)
   refine' TL.andG (k := 9) (dj := 66) (d := 75) rfl ?_ ?_ ?_
   rotate_left
   ·
    intro g75 hd
    first | replace g75 := of_decide_eq_true g75 | skip
    refine .want rfl rfl (.v (.field fo_104_3_WEntry rfl) (.want rfl rfl (.v (.load isAgg3 rfl .tk (by rfl)) ?_)))
    refine .want rfl rfl (.v (.lss rfl rfl) (.want rfl rfl (.v (.move rfl) ?_)))
    refine' TL.orG (k := 4) (dj := 70) (d := 74) rfl ?_ ?_ ?_
    rotate_left
    ·
     intro g74 hd
     first | replace g74 := of_decide_eq_false g74 | skip
     refine .want rfl rfl (.v (.field fo_104_3_WEntry rfl) (.want rfl rfl (.v (.load isAgg3 rfl .tk (by rfl)) ?_)))
     refine .want rfl rfl (.v (.gtr rfl rfl) (.want rfl rfl (.v (.pick_false rfl rfl) (.nil ?_))))
     exact .keep (Sub.cons rfl (Sub.push rfl (Sub.push rfl (Sub.push rfl (Sub.push rfl (Sub.pushSame hd Sub.rfl'))))))
    ·
     intro g74 hd
     refine .skip rfl rfl rfl (.skip rfl rfl rfl (.skip rfl rfl rfl (.want rfl rfl (.v (.pick_true rfl rfl) (.nil ?_)))))
     exact .keep (Sub.cons rfl (Sub.push rfl (Sub.push rfl (Sub.push rfl (Sub.push rfl (Sub.pushSame hd Sub.rfl'))))))
    first | refine .boolOr ?_ | skip
    refine .v (.pick_true rfl rfl) (.nil ?_)
    exact .keep (Sub.cons rfl (Sub.push rfl (Sub.push rfl (Sub.push rfl (Sub.push rfl (Sub.push rfl (Sub.push rfl (Sub.pushSame hd Sub.rfl'))))))))
   ·
    intro g75 hd
    refine .skip rfl rfl rfl (.skip rfl rfl rfl (.skip rfl rfl rfl (.skip rfl rfl rfl (.skip_undef rfl rfl rfl (.skip_undef rfl rfl rfl (.skip_undef rfl rfl rfl (.skip rfl rfl rfl (.v (.pick_false rfl rfl) (.nil ?_)))))))))
    exact .keep (Sub.cons rfl (Sub.push rfl (Sub.push rfl (Sub.push rfl (Sub.push rfl (Sub.push rfl (Sub.push rfl (Sub.push rfl (Sub.push rfl (Sub.push rfl (Sub.pushSame hd Sub.rfl')))))))))))
   first | refine .boolAnd ?_ | skip
   refine .nil (TQ.then ?_)
   first | refine .cond_dec rfl (fun h3 => ?_) (fun h3 => ?_) | refine .cond rfl (fun h3 => ?_) (fun h3 => ?_)
   ·
    refine .seq (.region (.v (.assign rfl) (.nil (TQ.then (.ret (.then_ret ?_))))))
    exact .ret results125 (.tmp rfl .nil) () (congrArg i64 (if_neg (by unfold Ety.ok; simp [Value.cells] at *; cases ent <;> simp at * <;> omega))) trivial .en
   ·
    refine .skip (TQ.then (.seq (.region (.v (.assign rfl) (.nil (TQ.then (.ret ?_)))))))
    exact .ret results125 (.tmp rfl .nil) () (congrArg i64 (if_pos (by unfold Ety.ok; simp [Value.cells] at *; cases ent <;> simp at * <;> omega))) trivial .en

set_option maxHeartbeats 400000 in
theorem S_wardenref11_Encode {e : Ety} : Spec prog 88 [e.val].toArray [] (fun _ : Unit => True) (fun _ => .tuple #[.agg #[w32 e.e0, w32 e.e1], i64 e.check]) (fun _ => []) := by
 refine Spec.body func88 rfl ntmps88 rfl (fun σ R => ?_)
 refine .seq (.region (.box (vs := [_, _, _, _, _]) rfl rfl rfl (fun b1 => ?_)))
 refine .alloc zeroValue155 rfl rfl (fun b2 => ?_)
 refine .v (.assign rfl) (.nil (TQ.then (.seq (.region (.v (.loadAgg (vs := [_, _, _, _, _]) isAgg104 sizeOf104 rfl .tk (by rfl) (by rfl)) ?_)))))
 refine .call call125 (S_wardenref11_Check) rfl .pk rfl (fun x7 hx7 => ?_)
 refine .v (.assign rfl) (.nil (TQ.then (.seq (.seq (.region (.v (.move rfl) (.v (.neq rfl rfl) (.nil (TQ.then ?_)))))))))
 first | refine .cond_dec rfl (fun h1 => ?_) (fun h1 => ?_) | refine .cond rfl (fun h1 => ?_) (fun h1 => ?_)
 ·
  refine .seq (.region (.v (.buildArr (cs := [_, _]) zeroValue155 underlying155 sizeOf23 rfl rfl) ?_))
  refine .v (.move rfl) (.storeAll (us := [_, _]) sizeOf155 rfl rfl rfl rfl .up rfl ?_)
  refine .v (.assign rfl) (.nil (TQ.then (.ret (.then_ret ?_))))
  exact .ret results88 (.agg isAgg155 sizeOf155 rfl .tk (by rfl) (by rfl) (.tmp rfl .nil)) () (by have := Ety.enc_bad h1; simp only [Ety.enc, List.cons.injEq, and_true] at this; rw [this.1.1, this.1.2]; rfl) trivial .en
 ·
  have hok := Ety.check_zero.1 (show e.check = 0 by omega)
  have hst := Ety.ok_st hok
  obtain ⟨k1, k2, k3, k4, k5, k6, _⟩ := id hok
  have e0 : e.e0 = e.w0 := if_pos hok
  have e1 : e.e1 = e.w1 := if_pos hok
  refine .skip (TQ.then (.seq (.region (.v (.field fo_104_0_WEntry rfl) (.v (.load isAgg3 rfl .tk (by rfl)) ?_)))))
  refine .v (.field fo_104_3_WEntry rfl) (.v (.load isAgg3 rfl .tk (by rfl)) ?_)
  refine .v (.mul64 rfl rfl (by omega)) ?_
  refine .v (.add64 rfl rfl (by omega)) ?_
  refine .v (.field fo_104_1_WEntry rfl) (.v (.load isAgg3 rfl .tk (by rfl)) ?_)
  refine .v (.mul64 rfl rfl (by omega)) ?_
  refine .v (.add64 rfl rfl (by omega)) ?_
  refine .v (.assign rfl) (.nil (TQ.then (.seq (.seq (.region (.v (.field fo_104_4_WEntry rfl) (.v (.load isAgg4 rfl .tk (by rfl)) ?_)))))))
  refine .nil (TQ.then ?_)
  first | refine .cond_dec rfl (fun h2 => ?_) (fun h2 => ?_) | refine .cond rfl (fun h2 => ?_) (fun h2 => ?_)
  ·
   refine .region (.v (.move rfl) (.v (.add64 rfl rfl (by omega)) ?_))
   refine .v (.assign rfl) (.nil (TQ.then (.seq (.region (.v (.move rfl) (.v (.conv_64_32 underlying3 underlying23 rfl) ?_))))))
   refine .v (.field fo_104_2_WEntry rfl) (.v (.load isAgg3 rfl .tk (by rfl)) ?_)
   refine .v (.conv_64_32 underlying3 underlying23 rfl) ?_
   refine .v (.buildArr (cs := [_, _]) zeroValue155 underlying155 sizeOf23 rfl rfl) ?_
   refine .storeAll (us := [_, _]) sizeOf155 rfl rfl rfl rfl .up rfl ?_
   refine .v (.assign rfl) (.nil (TQ.then (.ret ?_)))
   exact .ret results88 (.agg isAgg155 sizeOf155 rfl .tk (by rfl) (by rfl) (.tmp rfl .nil)) () (by rw [e0, e1, Ety.w0, h2, show e.check = 0 by omega, if_pos rfl, show e.ty + 16 * e.st + 256 + 65536 * e.own = e.ty + 16 * e.st + 65536 * e.own + 256 by omega]; rfl) trivial .en
  ·
   refine .skip (TQ.then (.seq (.region (.v (.move rfl) (.v (.conv_64_32 underlying3 underlying23 rfl) ?_)))))
   refine .v (.field fo_104_2_WEntry rfl) (.v (.load isAgg3 rfl .tk (by rfl)) ?_)
   refine .v (.conv_64_32 underlying3 underlying23 rfl) ?_
   refine .v (.buildArr (cs := [_, _]) zeroValue155 underlying155 sizeOf23 rfl rfl) ?_
   refine .storeAll (us := [_, _]) sizeOf155 rfl rfl rfl rfl .up rfl ?_
   refine .v (.assign rfl) (.nil (TQ.then (.ret ?_)))
   exact .ret results88 (.agg isAgg155 sizeOf155 rfl .tk (by rfl) (by rfl) (.tmp rfl .nil)) () (by rw [e0, e1, Ety.w0, h2, show e.check = 0 by omega, if_neg (by simp), Int.add_zero]; rfl) trivial .en

theorem pl_104_WEntry : Places prog 104 [(0, 1), (1, 1), (2, 1), (3, 1), (4, 1)] := ⟨_, underlying104, fun w => by simp [sizeOf3, sizeOf4]⟩
set_option maxHeartbeats 400000 in
theorem S_wardenref11_Decode {a b : W} : Spec prog 98 [.agg #[w32 a, w32 b]].toArray [] (fun _ : Unit => True) (fun _ => .tuple #[(Ety.dec a b).1.val, i64 (Ety.dec a b).2]) (fun _ => []) := by
 refine Spec.body func98 rfl ntmps98 rfl (fun σ R => ?_)
 have ha := a.isLt
 have hb := b.isLt
 refine .seq (.region (.box (vs := [_, _]) rfl rfl rfl (fun b1 => ?_)))
 refine .alloc zeroValue104 rfl rfl (fun b2 => ?_)
 refine .v (.assign rfl) (.nil (TQ.then (.seq (.region (.v (.ixArr1 underlying155 sizeOf23 rfl rfl (by omega)) ?_)))))
 refine .v (.load isAgg23 rfl .tk (by rfl)) ?_
 refine .v (.conv_32_64 underlying23 underlying3 rfl) ?_
 refine .v (.assign rfl) (.nil (TQ.then (.seq (.region (.v (.move rfl) (.v (.rem64 rfl rfl (by omega)) ?_))))))
 refine .v (.move rfl) (.v (.quo64 rfl rfl (by omega)) ?_)
 refine .v (.rem64 rfl rfl (by omega)) ?_
 refine .v (.move rfl) (.v (.quo64 rfl rfl (by omega)) ?_)
 refine .v (.rem64 rfl rfl (by omega)) ?_
 refine .v (.eql rfl rfl) (.v (.move rfl) (.v (.quo64 rfl rfl (by omega)) ?_))
 refine .v (.rem64 rfl rfl (by omega)) ?_
 refine .v (.ixArr1 underlying155 sizeOf23 rfl rfl (by omega)) ?_
 refine .v (.load isAgg23 rfl .tk (by rfl)) ?_
 refine .v (.conv_32_64 underlying23 underlying3 rfl) ?_
 refine .v (.rem64 rfl rfl (by omega)) ?_
 refine .v (.build (cs := [_, _, _, _, _]) zeroValue104 pl_104_WEntry rfl rfl) ?_
 refine .alloc zeroValue104 rfl rfl (fun b5 => ?_)
 refine .storeAll (us := [_, _, _, _, _]) sizeOf104 rfl rfl rfl rfl .up rfl ?_
 refine .nil (TQ.then (.seq (.region (.v (.loadAgg (vs := [_, _, _, _, _]) isAgg104 sizeOf104 rfl .tk (by rfl) (by rfl)) ?_))))
 refine .call call88 (S_wardenref11_Encode (e := (Ety.split a b))) rfl .pk rfl (fun x30 hx30 => ?_)
 refine .v (.move rfl) (.v (.extract rfl rfl) (.v (.extract rfl rfl) (.alloc zeroValue155 rfl rfl (fun b6 => ?_))))
 refine .storeAll (us := [_, _]) sizeOf155 rfl rfl rfl rfl .up rfl ?_
 refine .v (.assign rfl) (.nil (TQ.then (.seq (.seq (.region (.v (.move rfl) (.v (.neq rfl rfl) (.v (.move rfl) ?_))))))))
 refine' TL.orG (k := 4) (dj := 35) (d := 39) rfl ?_ ?_ ?_
 rotate_left
 ·
  intro g39 hd
  first | replace g39 := of_decide_eq_false g39 | skip
  refine .want rfl rfl (.v (.loadAgg (vs := [_, _]) isAgg155 sizeOf155 rfl .tk (by rfl) (by rfl)) ?_)
  refine .want rfl rfl (.v (.loadAgg (vs := [_, _]) isAgg155 sizeOf155 rfl .tk (by rfl) (by rfl)) ?_)
  refine .want rfl rfl (.v (.neqAg eqGuardType155 isAgg155 sizeOf155 typeInfo155 rfl rfl (EqOk.words underlying155 underlying23 typeInfo23 isAgg23 sizeOf23 typeInfo155 isAgg155 sizeOf155 _ [a, b] Ety.enc_len rfl)) ?_)
  refine .v (.pick_false rfl rfl) (.nil ?_)
  exact .keep (Sub.cons rfl (Sub.push rfl (Sub.push rfl (Sub.push rfl (Sub.push rfl (Sub.pushSame hd Sub.rfl'))))))
 ·
  intro g39 hd
  refine .skip rfl rfl rfl (.skip rfl rfl rfl (.skip rfl rfl rfl (.v (.pick_true rfl rfl) (.nil ?_))))
  exact .keep (Sub.cons rfl (Sub.push rfl (Sub.push rfl (Sub.push rfl (Sub.push rfl (Sub.pushSame hd Sub.rfl'))))))
 first | refine .boolOr ?_ | skip
 refine .nil (TQ.then ?_)
 first | refine .cond_dec rfl (fun h1 => ?_) (fun h1 => ?_) | refine .cond rfl (fun h1 => ?_) (fun h1 => ?_)
 ·
  refine .seq (.region (.v (.build (cs := [_, _, _, _, _]) zeroValue104 pl_104_WEntry rfl rfl) ?_))
  refine .storeAll (us := [_, _, _, _, _]) sizeOf104 rfl rfl rfl rfl .up rfl ?_
  refine .v (.assign rfl) (.nil (TQ.then (.ret (.then_ret ?_))))
  exact .ret results98 (.agg isAgg104 sizeOf104 rfl .tk (by rfl) (by rfl) (.tmp rfl .nil)) () (by rw [Ety.dec_bad rfl h1]; rfl) trivial .en
 ·
  refine .skip (TQ.then (.seq (.region (.v (.loadAgg (vs := [_, _, _, _, _]) isAgg104 sizeOf104 rfl .tk (by rfl) (by rfl)) ?_))))
  refine .storeAll (us := [_, _, _, _, _]) sizeOf104 rfl rfl rfl rfl .up rfl ?_
  refine .v (.assign rfl) (.nil (TQ.then (.ret ?_)))
  exact .ret results98 (.agg isAgg104 sizeOf104 rfl .tk (by rfl) (by rfl) (.tmp rfl .nil)) () (by rw [Ety.dec_good rfl h1]; rfl) trivial .en
end Go.Wd
