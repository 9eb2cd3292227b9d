/- PROVED HERE: contracts of functions of the program, walked: each returns what the plain model says, for all items that its precondition names. No condition beyond each theorem's own. -/
import Derived.Test.YtkpomphooljgmaaGreatDoorProg
import Derived.Test.YtkpomphooljgmaaGreatDoorModel
import Derived.Test.YtkpomphooljgmaaGreatDoorPk
import Derived.Test.YtkpomphooljgmaaGreatDoorMWalk
import Derived.Test.YtkpomphooljgmaaGreatDoorWRef07
namespace Go.Wd
open Go Go.Proofs Go.Proofs.Tryz
theorem S_ref07_ReadT {m : Nat} {M : Mem} {sec : Bool} {pg off : Int} : Spec prog 114 [ptr m, .agg #[.bool sec, i64 pg], i64 off].toArray [RMemA m M] (fun _ : Unit => True) (fun _ => .tuple #[w32 (M.peek sec pg off), i64 (M.errW sec pg off)]) (fun _ => [RMemA m (M.tk (rdT M sec pg off))]) := by
 have h := S_wardenref07_Memory_Read (m := m) (M := M) (sec := sec) (pg := pg) (off := off)
 rwa [Mem.read_val, Mem.read_err, Mem.read_mem] at h

set_option maxHeartbeats 400000 in
theorem S_wardenref09_Split {va : W} : Spec prog 147 [w32 va].toArray [] (fun _ : Unit => True) (fun _ => .tuple #[i64 (vaI va), i64 (vaJ va), i64 (vaO va), i64 (vaE va)]) (fun _ => []) := by
 refine Spec.body func147 rfl ntmps147 rfl (fun σ R => ?_)
 have h0 := va.isLt
 refine .seq (.region (.v (.assign rfl) (.v (.assign rfl) (.v (.assign rfl) (.v (.assign rfl) (.nil (TQ.then (.seq (.region (.v (.move rfl) (.v (.conv_32_64 underlying23 underlying3 rfl) ?_)))))))))))
 refine .v (.assign rfl) (.nil (TQ.then (.seq (.seq (.region (.v (.move rfl) (.v (.geq rfl rfl) (.v (.move rfl) ?_))))))))
 refine' TL.orG (k := 4) (dj := 11) (d := 15) rfl ?_ ?_ ?_
 rotate_left
 ·
  intro g15 hd
  first | replace g15 := of_decide_eq_false g15 | skip
  refine .want rfl rfl (.v (.move rfl) (.want rfl rfl (.v (.rem64 rfl rfl (by omega)) ?_)))
  refine .want rfl rfl (.v (.neq rfl rfl) (.v (.pick_false rfl rfl) (.nil ?_)))
  exact .keep (Sub.cons rfl (Sub.push rfl (Sub.push rfl (Sub.push rfl (Sub.push rfl (Sub.pushSame hd Sub.rfl'))))))
 ·
  intro g15 hd
  refine .skip rfl rfl rfl (.skip rfl rfl rfl (.skip rfl rfl rfl (.v (.pick_true rfl rfl) (.nil ?_))))
  exact .keep (Sub.cons rfl (Sub.push rfl (Sub.push rfl (Sub.push rfl (Sub.push rfl (Sub.pushSame hd Sub.rfl'))))))
 first | refine .boolOr ?_ | skip
 refine .nil (TQ.then ?_)
 first | refine .cond_dec rfl (fun h1 => ?_) (fun h1 => ?_) | refine .cond rfl (fun h1 => ?_) (fun h1 => ?_)
 ·
  refine .seq (.region (.v (.assign rfl) (.v (.assign rfl) (.v (.assign rfl) (.v (.assign rfl) (.nil (TQ.then (.ret (.then_ret ?_)))))))))
  exact .ret results147 (.tmp rfl (.tmp rfl (.tmp rfl (.tmp rfl .nil)))) () (split_badR h1).symm trivial .en
 ·
  refine .skip (TQ.then (.seq (.region (.v (.move rfl) (.v (.quo64 rfl rfl (by omega)) ?_)))))
  refine .v (.move rfl) (.v (.quo64 rfl rfl (by omega)) ?_)
  refine .v (.rem64 rfl rfl (by omega)) ?_
  refine .v (.move rfl) (.v (.rem64 rfl rfl (by omega)) ?_)
  refine .v (.quo64 rfl rfl (by omega)) ?_
  refine .v (.assign rfl) (.v (.assign rfl) (.v (.assign rfl) (.v (.assign rfl) (.nil (TQ.then (.ret ?_))))))
  exact .ret results147 (.tmp rfl (.tmp rfl (.tmp rfl (.tmp rfl .nil)))) () (split_goodR h1).symm trivial .en

set_option maxHeartbeats 400000 in
theorem S_wardenref09_First {p : Int} : Spec prog 154 [i64 p].toArray [] (fun _ : Unit => True) (fun _ => .tuple #[w32 (first p).1, i64 (first p).2]) (fun _ => []) := by
 refine Spec.body func154 rfl ntmps154 rfl (fun σ R => ?_)
 refine .seq (.region (.v (.assign (v := w32 0#32) rfl) (.v (.assign rfl) (.nil (TQ.then (.seq (.seq (.region (.v (.move rfl) (.v (.lss rfl rfl) (.v (.move rfl) ?_)))))))))))
 refine' TL.orG (k := 3) (dj := 6) (d := 9) rfl ?_ ?_ ?_
 rotate_left
 ·
  intro g9 hd
  first | replace g9 := of_decide_eq_false g9 | skip
  refine .want rfl rfl (.v (.move rfl) (.want rfl rfl (.v (.geq rfl rfl) (.v (.pick_false rfl rfl) (.nil ?_)))))
  exact .keep (Sub.cons rfl (Sub.push rfl (Sub.push rfl (Sub.push rfl (Sub.pushSame hd Sub.rfl')))))
 ·
  intro g9 hd
  refine .skip rfl rfl rfl (.skip rfl rfl rfl (.v (.pick_true rfl rfl) (.nil ?_)))
  exact .keep (Sub.cons rfl (Sub.push rfl (Sub.push rfl (Sub.push rfl (Sub.pushSame hd Sub.rfl')))))
 first | refine .boolOr ?_ | skip
 refine .nil (TQ.then ?_)
 first | refine .cond_dec rfl (fun h1 => ?_) (fun h1 => ?_) | refine .cond rfl (fun h1 => ?_) (fun h1 => ?_)
 ·
  refine .seq (.region (.v (.assign (v := w32 0#32) rfl) (.v (.assign rfl) (.nil (TQ.then (.ret (.then_ret ?_)))))))
  exact .ret results154 (.tmp rfl (.tmp rfl .nil)) () (by rw [first, if_neg (by omega)]; rfl) trivial .en
 ·
  refine .skip (TQ.then (.seq (.region (.v (.move rfl) (.v (.mul64 rfl rfl (by omega)) ?_)))))
  refine .v (.add64 rfl rfl (by omega)) ?_
  refine .v (.conv_64_32 underlying3 underlying23 rfl) ?_
  refine .v (.assign rfl) (.v (.assign rfl) (.nil (TQ.then (.ret ?_))))
  exact .ret results154 (.tmp rfl (.tmp rfl .nil)) () (by rw [first, if_pos (by omega)]; rfl) trivial .en

set_option maxHeartbeats 400000 in
theorem S_wardenref09_ParseFirst {w : W} : Spec prog 169 [w32 w].toArray [] (fun _ : Unit => True) (fun _ => .tuple #[i64 (parseFirst w).1, i64 (parseFirst w).2]) (fun _ => []) := by
 refine Spec.body func169 rfl ntmps169 rfl (fun σ R => ?_)
 refine .seq (.region (.v (.assign rfl) (.v (.assign rfl) (.nil (TQ.then (.seq (.seq (.region (.v (.move rfl) (.v (.eql32 (b := 0#32) rfl rfl) ?_))))))))))
 refine .nil (TQ.then ?_)
 first | refine .cond_dec rfl (fun h1 => ?_) (fun h1 => ?_) | refine .cond rfl (fun h1 => ?_) (fun h1 => ?_)
 ·
  refine .seq (.region (.v (.assign rfl) (.v (.assign rfl) (.nil (TQ.then (.ret (.then_ret ?_)))))))
  exact .ret results169 (.tmp rfl (.tmp rfl .nil)) () (by rw [parseFirst_zero h1]; rfl) trivial .en
 ·
  refine .skip (TQ.then (.seq (.seq (.region (.v (.assign rfl) (.nil (TQ.then (.block (.loop (X := {p : Nat // p ≤ 64 ∧ ∀ q : Nat, q < p → (first (q : Int)).1 ≠ w}) (s0 := [(0, _)]) (fun z => [(4, i64 z.1)]) (fun z => []) (fun z => 64 - z.1) ⟨0, by decide, fun q h => absurd h (Nat.not_lt_zero _)⟩ .st .pk (fun z => ?_))))))))))
  refine .seq (.seq (.region (.v (.move rfl) (.v (.lss rfl rfl) (.nil (TQ.then ?_))))))
  first | refine .cond_dec rfl (fun h2 => ?_) (fun h2 => ?_) | refine .cond rfl (fun h2 => ?_) (fun h2 => ?_)
  ·
   obtain ⟨p, hp, hq⟩ := z
   dsimp only at hp hq h2 ⊢
   have hlt : p < 64 := by omega
   refine .skip (TQ.then (.seq (.block (.seq (.region (.v (.move rfl) (.call call154 (S_wardenref09_First) rfl .pk rfl (fun x15 hx15 => ?_))))))))
   refine .v (.move rfl) (.v (.extract rfl rfl) (.v (.extract rfl rfl) (.v (.assign rfl) (.v (.assign rfl) (.nil (TQ.then (.seq (.region (.v (.move rfl) (.v (.move rfl) (.v (.eql32 rfl rfl) ?_)))))))))))
   refine .nil (TQ.then ?_)
   first | refine .cond_dec rfl (fun h3 => ?_) (fun h3 => ?_) | refine .cond rfl (fun h3 => ?_) (fun h3 => ?_)
   ·
    refine .seq (.region (.v (.move rfl) (.v (.assign rfl) (.v (.assign rfl) (.nil (TQ.then (.ret (.blk_ret (.then_ret (.then_ret (.blk_ret (.then_ret ?_))))))))))))
    exact .ret results169 (.tmp rfl (.tmp rfl .nil)) () (by rw [parseFirst_hit h1 hlt h3]; rfl) trivial .en
   ·
    refine .skip (.blk_normal (TQ.then (.region (.v (.move rfl) (.v (.add64 rfl rfl (by omega)) ?_)))))
    refine .v (.assign rfl) (.nil ?_)
    exact .next ⟨p + 1, by omega, fun q hq2 => by rcases Nat.lt_succ_iff_lt_or_eq.1 hq2 with h | h; exact hq q h; (subst h; exact h3)⟩ (by dsimp only; omega) .st .en
  ·
   obtain ⟨p, hp, hq⟩ := z
   dsimp only at hp hq h2 ⊢
   obtain rfl : p = 64 := by omega
   refine .exit (.then_exit (.then_exit (.blk_hit (TQ.then (.seq (.region (.v (.assign rfl) (.v (.assign rfl) (.nil (TQ.then (.ret ?_)))))))))))
   exact .ret results169 (.tmp rfl (.tmp rfl .nil)) () (by rw [parseFirst_miss h1 hq]; rfl) trivial .en

theorem fo_197_0_WRef09 : FieldOff prog 197 0 0 := FieldOff.of 4 1 underlying197 rfl sizeOf4 rfl
theorem fo_197_1_WRef09 : FieldOff prog 197 1 1 := FieldOff.of 3 1 underlying197 rfl sizeOf3 rfl
theorem fo_197_2_WRef09 : FieldOff prog 197 2 2 := FieldOff.of 4 1 underlying197 rfl sizeOf4 rfl
theorem fo_197_3_WRef09 : FieldOff prog 197 3 3 := FieldOff.of 4 1 underlying197 rfl sizeOf4 rfl
set_option maxHeartbeats 400000 in
theorem S_wardenref09_Second {x : PMap} : Spec prog 151 [x.val].toArray [] (fun _ : Unit => True) (fun _ => .tuple #[w32 (second x).1, i64 (second x).2]) (fun _ => []) := by
 refine Spec.body func151 rfl ntmps151 rfl (fun σ R => ?_)
 refine .seq (.region (.box (vs := [_, _, _, _]) rfl rfl rfl (fun b1 => ?_)))
 refine .v (.assign (v := w32 0#32) rfl) (.v (.assign rfl) (.nil (TQ.then (.seq (.seq (.region (.v (.field fo_197_1_WRef09 rfl) (.v (.load isAgg3 rfl .tk (by rfl)) ?_))))))))
 refine .v (.lss rfl rfl) (.v (.move rfl) ?_)
 refine' TL.orG (k := 4) (dj := 8) (d := 12) rfl ?_ ?_ ?_
 rotate_left
 ·
  intro g12 hd
  first | replace g12 := of_decide_eq_false g12 | skip
  refine .want rfl rfl (.v (.field fo_197_1_WRef09 rfl) (.want rfl rfl (.v (.load isAgg3 rfl .tk (by rfl)) ?_)))
  refine .want rfl rfl (.v (.geq rfl rfl) (.v (.pick_false rfl rfl) (.nil ?_)))
  exact .keep (Sub.cons rfl (Sub.push rfl (Sub.push rfl (Sub.push rfl (Sub.push rfl (Sub.pushSame hd Sub.rfl'))))))
 ·
  intro g12 hd
  refine .skip rfl rfl rfl (.skip rfl rfl rfl (.skip rfl rfl rfl (.v (.pick_true rfl rfl) (.nil ?_))))
  exact .keep (Sub.cons rfl (Sub.push rfl (Sub.push rfl (Sub.push rfl (Sub.push rfl (Sub.pushSame hd Sub.rfl'))))))
 first | refine .boolOr ?_ | skip
 refine .nil (TQ.then ?_)
 first | refine .cond_dec rfl (fun h1 => ?_) (fun h1 => ?_) | refine .cond rfl (fun h1 => ?_) (fun h1 => ?_)
 ·
  refine .seq (.region (.v (.assign (v := w32 0#32) rfl) (.v (.assign rfl) (.nil (TQ.then (.ret (.then_ret ?_)))))))
  exact .ret results151 (.tmp rfl (.tmp rfl .nil)) () (by rw [second, if_pos (by omega)]; rfl) trivial .en
 ·
  refine .skip (TQ.then (.seq (.seq (.region (.v (.field fo_197_0_WRef09 rfl) (.v (.load isAgg4 rfl .tk (by rfl)) ?_))))))
  refine .v (by first | exact Val.not_dec rfl | exact Val.not rfl) ?_
  refine .v (.move rfl) ?_
  refine' TL.andG (k := 3) (dj := 16) (d := 19) rfl ?_ ?_ ?_
  rotate_left
  ·
   intro g19 hd
   first | replace g19 := of_decide_eq_true g19 | skip
   refine .want rfl rfl (.v (.field fo_197_3_WRef09 rfl) (.want rfl rfl (.v (.load isAgg4 rfl .tk (by rfl)) ?_)))
   refine .v (.pick_true rfl rfl) (.nil ?_)
   exact .keep (Sub.cons rfl (Sub.push rfl (Sub.push rfl (Sub.push rfl (Sub.pushSame hd Sub.rfl')))))
  ·
   intro g19 hd
   refine .skip rfl rfl rfl (.skip rfl rfl rfl (.v (.pick_false rfl rfl) (.nil ?_)))
   exact .keep (Sub.cons rfl (Sub.push rfl (Sub.push rfl (Sub.push rfl (Sub.pushSame hd Sub.rfl')))))
  first | refine .boolAnd ?_ | skip
  refine .nil (TQ.then ?_)
  first | refine .cond_dec rfl (fun h2 => ?_) (fun h2 => ?_) | refine .cond rfl (fun h2 => ?_) (fun h2 => ?_)
  ·
   refine .seq (.region (.v (.assign (v := w32 0#32) rfl) (.v (.assign rfl) (.nil (TQ.then (.ret (.then_ret ?_)))))))
   exact .ret results151 (.tmp rfl (.tmp rfl .nil)) () (by rw [second, if_neg (by omega), if_pos (by simpa [And.comm] using h2)]; rfl) trivial .en
  ·
   have hp : 0 ≤ x.page ∧ x.page < 64 := by omega
   have hq : ¬ (x.ex = true ∧ x.sec = false) := by simpa [And.comm] using h2
   refine .skip (TQ.then (.seq (.region (.v (.field fo_197_1_WRef09 rfl) (.v (.load isAgg3 rfl .tk (by rfl)) ?_)))))
   refine .v (.mul64 rfl rfl (by omega)) ?_
   refine .v (.add64 rfl rfl (by omega)) ?_
   refine .v (.assign rfl) (.nil (TQ.then (.seq (.seq (.region (.v (.field fo_197_0_WRef09 rfl) (.v (.load isAgg4 rfl .tk (by rfl)) ?_)))))))
   refine .nil (TQ.then ?_)
   first | refine .cond_dec rfl (fun h3 => ?_) (fun h3 => ?_) | refine .cond rfl (fun h3 => ?_) (fun h3 => ?_)
   ·
    refine .region (.v (.move rfl) (.v (.add64 rfl rfl (by omega)) ?_))
    refine .v (.assign rfl) (.nil (TQ.then (.seq (.seq (.region (.v (.field fo_197_2_WRef09 rfl) (.v (.load isAgg4 rfl .tk (by rfl)) ?_)))))))
    refine .nil (TQ.then ?_)
    first | refine .cond_dec rfl (fun h4 => ?_) (fun h4 => ?_) | refine .cond rfl (fun h4 => ?_) (fun h4 => ?_)
    ·
     refine .region (.v (.move rfl) (.v (.add64 rfl rfl (by omega)) ?_))
     refine .v (.assign rfl) (.nil (TQ.then (.seq (.seq (.region (.v (.field fo_197_3_WRef09 rfl) (.v (.load isAgg4 rfl .tk (by rfl)) ?_)))))))
     refine .nil (TQ.then ?_)
     first | refine .cond_dec rfl (fun h5 => ?_) (fun h5 => ?_) | refine .cond rfl (fun h5 => ?_) (fun h5 => ?_)
     ·
      refine .region (.v (.move rfl) (.v (.add64 rfl rfl (by omega)) ?_))
      refine .v (.assign rfl) (.nil (TQ.then (.seq (.region (.v (.move rfl) (.v (.conv_64_32 underlying3 underlying23 rfl) ?_))))))
      refine .v (.assign rfl) (.v (.assign rfl) (.nil (TQ.then (.ret ?_))))
      exact .ret results151 (.tmp rfl (.tmp rfl .nil)) () (by rw [second, if_neg (fun c => c hp), if_neg hq, PMap.bits]; simp [h3, h4, h5, tup]) trivial .en
     ·
      refine .skip (TQ.then (.seq (.region (.v (.move rfl) (.v (.conv_64_32 underlying3 underlying23 rfl) ?_)))))
      refine .v (.assign rfl) (.v (.assign rfl) (.nil (TQ.then (.ret ?_))))
      exact .ret results151 (.tmp rfl (.tmp rfl .nil)) () (by rw [second, if_neg (fun c => c hp), if_neg hq, PMap.bits]; simp [h3, h4, h5, tup]) trivial .en
    ·
     refine .skip (TQ.then (.seq (.seq (.region (.v (.field fo_197_3_WRef09 rfl) (.v (.load isAgg4 rfl .tk (by rfl)) ?_))))))
     refine .nil (TQ.then ?_)
     first | refine .cond_dec rfl (fun h5 => ?_) (fun h5 => ?_) | refine .cond rfl (fun h5 => ?_) (fun h5 => ?_)
     ·
      refine .region (.v (.move rfl) (.v (.add64 rfl rfl (by omega)) ?_))
      refine .v (.assign rfl) (.nil (TQ.then (.seq (.region (.v (.move rfl) (.v (.conv_64_32 underlying3 underlying23 rfl) ?_))))))
      refine .v (.assign rfl) (.v (.assign rfl) (.nil (TQ.then (.ret ?_))))
      exact .ret results151 (.tmp rfl (.tmp rfl .nil)) () (by rw [second, if_neg (fun c => c hp), if_neg hq, PMap.bits]; simp [h3, h4, h5, tup]) trivial .en
     ·
      refine .skip (TQ.then (.seq (.region (.v (.move rfl) (.v (.conv_64_32 underlying3 underlying23 rfl) ?_)))))
      refine .v (.assign rfl) (.v (.assign rfl) (.nil (TQ.then (.ret ?_))))
      exact .ret results151 (.tmp rfl (.tmp rfl .nil)) () (by rw [second, if_neg (fun c => c hp), if_neg hq, PMap.bits]; simp [h3, h4, h5, tup]) trivial .en
   ·
    refine .skip (TQ.then (.seq (.seq (.region (.v (.field fo_197_2_WRef09 rfl) (.v (.load isAgg4 rfl .tk (by rfl)) ?_))))))
    refine .nil (TQ.then ?_)
    first | refine .cond_dec rfl (fun h4 => ?_) (fun h4 => ?_) | refine .cond rfl (fun h4 => ?_) (fun h4 => ?_)
    ·
     refine .region (.v (.move rfl) (.v (.add64 rfl rfl (by omega)) ?_))
     refine .v (.assign rfl) (.nil (TQ.then (.seq (.seq (.region (.v (.field fo_197_3_WRef09 rfl) (.v (.load isAgg4 rfl .tk (by rfl)) ?_)))))))
     refine .nil (TQ.then ?_)
     first | refine .cond_dec rfl (fun h5 => ?_) (fun h5 => ?_) | refine .cond rfl (fun h5 => ?_) (fun h5 => ?_)
     ·
      refine .region (.v (.move rfl) (.v (.add64 rfl rfl (by omega)) ?_))
      refine .v (.assign rfl) (.nil (TQ.then (.seq (.region (.v (.move rfl) (.v (.conv_64_32 underlying3 underlying23 rfl) ?_))))))
      refine .v (.assign rfl) (.v (.assign rfl) (.nil (TQ.then (.ret ?_))))
      exact .ret results151 (.tmp rfl (.tmp rfl .nil)) () (by rw [second, if_neg (fun c => c hp), if_neg hq, PMap.bits]; simp [h3, h4, h5, tup]) trivial .en
     ·
      refine .skip (TQ.then (.seq (.region (.v (.move rfl) (.v (.conv_64_32 underlying3 underlying23 rfl) ?_)))))
      refine .v (.assign rfl) (.v (.assign rfl) (.nil (TQ.then (.ret ?_))))
      exact .ret results151 (.tmp rfl (.tmp rfl .nil)) () (by rw [second, if_neg (fun c => c hp), if_neg hq, PMap.bits]; simp [h3, h4, h5, tup]) trivial .en
    ·
     refine .skip (TQ.then (.seq (.seq (.region (.v (.field fo_197_3_WRef09 rfl) (.v (.load isAgg4 rfl .tk (by rfl)) ?_))))))
     refine .nil (TQ.then ?_)
     first | refine .cond_dec rfl (fun h5 => ?_) (fun h5 => ?_) | refine .cond rfl (fun h5 => ?_) (fun h5 => ?_)
     ·
      refine .region (.v (.move rfl) (.v (.add64 rfl rfl (by omega)) ?_))
      refine .v (.assign rfl) (.nil (TQ.then (.seq (.region (.v (.move rfl) (.v (.conv_64_32 underlying3 underlying23 rfl) ?_))))))
      refine .v (.assign rfl) (.v (.assign rfl) (.nil (TQ.then (.ret ?_))))
      exact .ret results151 (.tmp rfl (.tmp rfl .nil)) () (by rw [second, if_neg (fun c => c hp), if_neg hq, PMap.bits]; simp [h3, h4, h5, tup]) trivial .en
     ·
      refine .skip (TQ.then (.seq (.region (.v (.move rfl) (.v (.conv_64_32 underlying3 underlying23 rfl) ?_)))))
      refine .v (.assign rfl) (.v (.assign rfl) (.nil (TQ.then (.ret ?_))))
      exact .ret results151 (.tmp rfl (.tmp rfl .nil)) () (by rw [second, if_neg (fun c => c hp), if_neg hq, PMap.bits]; simp [h3, h4, h5, tup]) trivial .en

theorem pl_197_WRef09 : Places prog 197 [(0, 1), (1, 1), (2, 1), (3, 1)] := ⟨_, underlying197, fun w => by simp [sizeOf3, sizeOf4]⟩
set_option maxHeartbeats 400000 in
theorem S_wardenref09_ParseSecond {w : W} : Spec prog 152 [w32 w].toArray [] (fun _ : Unit => True) (fun _ => .tuple #[(parseSecond w).1.val, i64 (parseSecond w).2]) (fun _ => []) := by
 refine Spec.body func152 rfl ntmps152 rfl (fun σ R => ?_)
 have h0 := w.isLt
 refine .seq (.region (.alloc zeroValue197 rfl rfl (fun b2 => ?_)))
 refine .v (.assign rfl) (.nil (TQ.then (.seq (.seq (.region (.v (.move rfl) (.v (.eql32 (b := 0#32) rfl rfl) ?_)))))))
 refine .nil (TQ.then ?_)
 first | refine .cond_dec rfl (fun h1 => ?_) (fun h1 => ?_) | refine .cond rfl (fun h1 => ?_) (fun h1 => ?_)
 ·
  refine .seq (.region (.v (.build (cs := [_, _, _, _]) zeroValue197 pl_197_WRef09 rfl rfl) ?_))
  refine .storeAll (us := [_, _, _, _]) sizeOf197 rfl rfl rfl rfl .up rfl ?_
  refine .v (.assign rfl) (.nil (TQ.then (.ret (.then_ret ?_))))
  exact .ret results152 (.agg isAgg197 sizeOf197 rfl .tk (by rfl) (by rfl) (.tmp rfl .nil)) () (by rw [parseSecond, if_pos h1]; rfl) trivial .en
 ·
  refine .skip (TQ.then (.seq (.region (.v (.move rfl) (.v (.conv_32_64 underlying23 underlying3 rfl) ?_)))))
  refine .v (.assign rfl) (.nil (TQ.then (.seq (.region (.v (.move rfl) (.v (.quo64 rfl rfl (by omega)) ?_))))))
  refine .v (.rem64 rfl rfl (by omega)) ?_
  refine .v (.eql rfl rfl) (.v (.move rfl) (.v (.quo64 rfl rfl (by omega)) ?_))
  refine .v (.move rfl) (.v (.quo64 rfl rfl (by omega)) ?_)
  refine .v (.rem64 rfl rfl (by omega)) ?_
  refine .v (.eql rfl rfl) (.v (.move rfl) (.v (.quo64 rfl rfl (by omega)) ?_))
  refine .v (.rem64 rfl rfl (by omega)) ?_
  refine .v (.eql rfl rfl) (.v (.build (cs := [_, _, _, _]) zeroValue197 pl_197_WRef09 rfl rfl) ?_)
  refine .alloc zeroValue197 rfl rfl (fun b5 => ?_)
  refine .storeAll (us := [_, _, _, _]) sizeOf197 rfl rfl rfl rfl .up rfl ?_
  refine .nil (TQ.then (.seq (.region (.v (.loadAgg (vs := [_, _, _, _]) isAgg197 sizeOf197 rfl .tk (by rfl) (by rfl)) ?_))))
  refine .call call151 (S_wardenref09_Second (x := guess2 w)) rfl .pk rfl (fun x30 hx30 => ?_)
  refine .v (.move rfl) (.v (.extract rfl rfl) (.v (.extract rfl rfl) (.v (.assign rfl) (.v (.assign rfl) (.nil (TQ.then (.seq (.seq (.region (.v (.move rfl) (.v (.neq rfl rfl) (.v (.move rfl) ?_))))))))))))
  refine' TL.orG (k := 4) (dj := 35) (d := 39) rfl ?_ ?_ ?_
  rotate_left
  ·
   intro g39 hd
   first | replace g39 := of_decide_eq_false g39 | skip
   refine .want rfl rfl (.v (.move rfl) (.want rfl rfl (.v (.move rfl) (.want rfl rfl (.v (.neq32 rfl rfl) ?_)))))
   refine .v (.pick_false rfl rfl) (.nil ?_)
   exact .keep (Sub.cons rfl (Sub.push rfl (Sub.push rfl (Sub.push rfl (Sub.push rfl (Sub.pushSame hd Sub.rfl'))))))
  ·
   intro g39 hd
   refine .skip rfl rfl rfl (.skip rfl rfl rfl (.skip rfl rfl rfl (.v (.pick_true rfl rfl) (.nil ?_))))
   exact .keep (Sub.cons rfl (Sub.push rfl (Sub.push rfl (Sub.push rfl (Sub.push rfl (Sub.pushSame hd Sub.rfl'))))))
  first | refine .boolOr ?_ | skip
  refine .nil (TQ.then ?_)
  first | refine .cond_dec rfl (fun h2 => ?_) (fun h2 => ?_) | refine .cond rfl (fun h2 => ?_) (fun h2 => ?_)
  ·
   refine .seq (.region (.v (.build (cs := [_, _, _, _]) zeroValue197 pl_197_WRef09 rfl rfl) ?_))
   refine .storeAll (us := [_, _, _, _]) sizeOf197 rfl rfl rfl rfl .up rfl ?_
   refine .v (.assign rfl) (.nil (TQ.then (.ret (.then_ret ?_))))
   exact .ret results152 (.agg isAgg197 sizeOf197 rfl .tk (by rfl) (by rfl) (.tmp rfl .nil)) () (by rw [parseSecond, if_neg h1, if_pos h2]; rfl) trivial .en
  ·
   refine .skip (TQ.then (.seq (.region (.v (.loadAgg (vs := [_, _, _, _]) isAgg197 sizeOf197 rfl .tk (by rfl) (by rfl)) ?_))))
   refine .storeAll (us := [_, _, _, _]) sizeOf197 rfl rfl rfl rfl .up rfl ?_
   refine .v (.assign rfl) (.nil (TQ.then (.ret ?_)))
   exact .ret results152 (.agg isAgg197 sizeOf197 rfl .tk (by rfl) (by rfl) (.tmp rfl .nil)) () (by rw [parseSecond, if_neg h1, if_neg h2]; rfl) trivial .en

theorem pl_78_WRef09 : Places prog 78 [(0, 1), (1, 1)] := ⟨_, underlying78, fun w => by simp [sizeOf3, sizeOf4]⟩
set_option maxHeartbeats 1000000 in
theorem S_wardenref09_Walk {m : Nat} {M : Mem} {l1 : Int} {va : W} : Spec prog 146 [ptr m, i64 l1, w32 va].toArray [RMemA m M] (fun x : Nat => x ≤ 2) (fun x => .tuple #[(walkM M l1 va).1.val, i64 (walkM M l1 va).2]) (fun x => [RMemA m (M.tk x)]) := by
 refine Spec.body func146 rfl ntmps146 rfl (fun σ R => ?_)
 refine .seq (.region (.alloc zeroValue197 rfl rfl (fun b6 => ?_)))
 refine .v (.assign rfl) (.nil (TQ.then (.seq (.region (.v (.move rfl) (.call call147 (S_wardenref09_Split) rfl .pk rfl (fun x19 hx19 => ?_)))))))
 refine .v (.move rfl) (.v (.extract rfl rfl) (.v (.extract rfl rfl) (.v (.extract rfl rfl) (.v (.extract rfl rfl) (.v (.assign rfl) (.v (.assign rfl) (.v (.assign rfl) (.v (.assign rfl) (.nil (TQ.then (.seq (.seq (.region (.v (.move rfl) (.v (.neq rfl rfl) (.nil (TQ.then ?_)))))))))))))))))
 first | refine .cond_dec rfl (fun h1 => ?_) (fun h1 => ?_) | refine .cond rfl (fun h1 => ?_) (fun h1 => ?_)
 ·
  refine .seq (.region (.v (.build (cs := [_, _, _, _]) zeroValue197 pl_197_WRef09 rfl rfl) ?_))
  refine .v (.move rfl) (.storeAll (us := [_, _, _, _]) sizeOf197 rfl rfl rfl rfl .up rfl ?_)
  refine .v (.assign rfl) (.nil (TQ.then (.ret (.then_ret ?_))))
  exact .ret results146 (.agg isAgg197 sizeOf197 rfl .tk (by rfl) (by rfl) (.tmp rfl .nil)) 0 (by rw [walkM_va h1]; rfl) (Nat.zero_le _) .en
 ·
  refine .skip (TQ.then (.seq (.seq (.region (.v (.move rfl) (.v (.lss rfl rfl) (.v (.move rfl) ?_)))))))
  refine' TL.orG (k := 5) (dj := 30) (d := 35) rfl ?_ ?_ ?_
  rotate_left
  ·
   intro g35 hd
   first | replace g35 := of_decide_eq_false g35 | skip
   refine .want rfl rfl (.v (.move rfl) (.want rfl rfl (.v (.move rfl) (.want rfl rfl (.call call52 (S_wardenref07_Memory_Secure) rfl .pk rfl (fun x33 hx33 => ?_))))))
   refine .want rfl rfl (.v (.geq rfl rfl) (.v (.pick_false rfl rfl) (.nil ?_)))
   exact .keepE (Sub.cons rfl (Sub.push rfl (Sub.push rfl (Sub.push rfl (Sub.push rfl (Sub.push rfl (Sub.pushSame hd Sub.rfl'))))))) .en
  ·
   intro g35 hd
   refine .skip rfl rfl rfl (.skip rfl rfl rfl (.skip rfl rfl rfl (.skip rfl rfl rfl (.v (.pick_true rfl rfl) (.nil ?_)))))
   exact .keepE (Sub.cons rfl (Sub.push rfl (Sub.push rfl (Sub.push rfl (Sub.push rfl (Sub.push rfl (Sub.pushSame hd Sub.rfl'))))))) .en
  first | refine .boolOr ?_ | skip
  refine .nil (TQ.then ?_)
  first | refine .cond_dec rfl (fun h2 => ?_) (fun h2 => ?_) | refine .cond rfl (fun h2 => ?_) (fun h2 => ?_)
  ·
   have hl : ¬ M.has true l1 := fun c => by have := has_sec.1 c; omega
   refine .seq (.region (.v (.build (cs := [_, _, _, _]) zeroValue197 pl_197_WRef09 rfl rfl) ?_))
   refine .storeAll (us := [_, _, _, _]) sizeOf197 rfl rfl rfl rfl .up rfl ?_
   refine .v (.assign rfl) (.nil (TQ.then (.ret (.then_ret ?_))))
   exact .ret results146 (.agg isAgg197 sizeOf197 rfl .tk (by rfl) (by rfl) (.tmp rfl .nil)) 0 (by rw [walkM_l1 h1 hl]; rfl) (Nat.zero_le _) .en
  ·
   have hl : M.has true l1 := has_sec.2 (by omega)
   refine .skip (TQ.then (.seq (.region (.v (.move rfl) (.v (.move rfl) (.v (.build (cs := [_, _]) zeroValue78 pl_78_WRef09 rfl rfl) ?_))))))
   refine .v (.move rfl) (.call call114 (S_ref07_ReadT) rfl .pk rfl (fun x42 hx42 => ?_))
   refine .v (.move rfl) (.v (.extract rfl rfl) (.v (.extract rfl rfl) (.v (.assign rfl) (.v (.assign rfl) (.nil (TQ.then (.seq (.region (.v (.move rfl) (.call call169 (S_wardenref09_ParseFirst) rfl .pk rfl (fun x47 hx47 => ?_)))))))))))
   refine .v (.move rfl) (.v (.extract rfl rfl) (.v (.extract rfl rfl) (.v (.assign rfl) (.v (.assign rfl) (.nil (TQ.then (.seq (.seq (.region (.v (.move rfl) (.v (.neq rfl rfl) (.nil (TQ.then ?_)))))))))))))
   first | refine .cond_dec rfl (fun h3 => ?_) (fun h3 => ?_) | refine .cond rfl (fun h3 => ?_) (fun h3 => ?_)
   ·
    refine .seq (.region (.v (.build (cs := [_, _, _, _]) zeroValue197 pl_197_WRef09 rfl rfl) ?_))
    refine .v (.move rfl) (.storeAll (us := [_, _, _, _]) sizeOf197 rfl rfl rfl rfl .up rfl ?_)
    refine .v (.assign rfl) (.nil (TQ.then (.ret (.then_ret ?_))))
    exact .ret results146 (.agg isAgg197 sizeOf197 rfl .tk (by rfl) (by rfl) (.tmp rfl .nil)) (rdT M true l1 (vaI va)) (by rw [walkM_pf h1 hl h3]; rfl) (Nat.le_trans rdT_le (by decide)) .en
   ·
    refine .skip (TQ.then (.seq (.seq (.region (.v (.move rfl) (.v (.move rfl) (.call call52 (S_wardenref07_Memory_Secure) rfl .pk rfl (fun x56 hx56 => ?_))))))))
    refine .v (.geq rfl rfl) (.nil (TQ.then ?_))
    first | refine .cond_dec rfl (fun h4 => ?_) (fun h4 => ?_) | refine .cond rfl (fun h4 => ?_) (fun h4 => ?_)
    ·
     have hl2 : ¬ M.has true (parseFirst (M.peek true l1 (vaI va))).1 := fun c => by have := has_sec.1 c; rw [Mem.tk_sec] at h4; omega
     refine .seq (.region (.v (.build (cs := [_, _, _, _]) zeroValue197 pl_197_WRef09 rfl rfl) ?_))
     refine .storeAll (us := [_, _, _, _]) sizeOf197 rfl rfl rfl rfl .up rfl ?_
     refine .v (.assign rfl) (.nil (TQ.then (.ret (.then_ret ?_))))
     exact .ret results146 (.agg isAgg197 sizeOf197 rfl .tk (by rfl) (by rfl) (.tmp rfl .nil)) (rdT M true l1 (vaI va)) (by rw [walkM_l2 h1 hl h3 hl2]; rfl) (Nat.le_trans rdT_le (by decide)) .en
    ·
     have hl2 : M.has true (parseFirst (M.peek true l1 (vaI va))).1 := has_sec.2 (by have := @parseFirst_pos (M.peek true l1 (vaI va)); rw [Mem.tk_sec] at h4; omega)
     refine .skip (TQ.then (.seq (.region (.v (.move rfl) (.v (.move rfl) (.v (.build (cs := [_, _]) zeroValue78 pl_78_WRef09 rfl rfl) ?_))))))
     refine .v (.move rfl) (.call call114 (S_ref07_ReadT) rfl .pk rfl (fun x64 hx64 => ?_))
     refine .v (.move rfl) (.v (.extract rfl rfl) (.v (.extract rfl rfl) (.v (.assign rfl) (.nil (TQ.then (.seq ?_))))))
     rw [Mem.tk_peek, Mem.tk_tk]
     obtain ⟨k1, hk1⟩ : ∃ k1, rdT M true l1 (vaI va) + rdT (M.tk (rdT M true l1 (vaI va))) true (parseFirst (M.peek true l1 (vaI va))).1 (vaJ va) = k1 := ⟨_, rfl⟩
     have hk2 : k1 ≤ 2 := by rw [← hk1]; exact Nat.add_le_add rdT_le rdT_le
     rw [hk1]
     have hw := walkM_in h1 hl h3 hl2
     obtain ⟨w2, hw2⟩ : ∃ w2, M.peek true (parseFirst (M.peek true l1 (vaI va))).1 (vaJ va) = w2 := ⟨_, rfl⟩
     rw [hw2] at hw ⊢
     refine .region (.v (.move rfl) (.call call152 (S_wardenref09_ParseSecond) rfl .pk rfl (fun x69 hx69 => ?_)))
     refine .v (.move rfl) (.v (.extract rfl rfl) (.v (.extract rfl rfl) (.alloc zeroValue197 rfl rfl (fun b15 => ?_))))
     refine .storeAll (us := [_, _, _, _]) sizeOf197 rfl rfl rfl rfl .up rfl ?_
     refine .v (.assign rfl) (.nil (TQ.then (.seq (.seq ?_))))
     obtain ⟨q, hq⟩ : ∃ q, parseSecond w2 = q := ⟨_, rfl⟩
     rw [hq] at hw ⊢
     refine .region (.v (.move rfl) (.v (.neq rfl rfl) (.nil (TQ.then ?_))))
     first | refine .cond_dec rfl (fun h5 => ?_) (fun h5 => ?_) | refine .cond rfl (fun h5 => ?_) (fun h5 => ?_)
     ·
      refine .seq (.region (.v (.build (cs := [_, _, _, _]) zeroValue197 pl_197_WRef09 rfl rfl) ?_))
      refine .v (.move rfl) (.storeAll (us := [_, _, _, _]) sizeOf197 rfl rfl rfl rfl .up rfl ?_)
      refine .v (.assign rfl) (.nil (TQ.then (.ret (.then_ret ?_))))
      exact .ret results146 (.agg isAgg197 sizeOf197 rfl .tk (by rfl) (by rfl) (.tmp rfl .nil)) k1 (by rw [hw, if_neg (fun c => h5 c.1), pair_eta (p := q) (a := PMap.zero) (by rw [← hq] at h5 ⊢; exact parseSecond_err h5)]; rfl) hk2 .en
     ·
      refine .skip (TQ.then (.seq (.region (.v (.move rfl) (.v (.field fo_197_0_WRef09 rfl) (.v (.load isAgg4 rfl .tk (by rfl)) ?_))))))
      refine .v (.field fo_197_1_WRef09 rfl) (.v (.load isAgg3 rfl .tk (by rfl)) ?_)
      refine .v (.build (cs := [_, _]) zeroValue78 pl_78_WRef09 rfl rfl) ?_
      refine .call call148 (S_wardenref07_Memory_Has) rfl .pk rfl (fun x82 hx82 => ?_)
      refine .v (.assign rfl) (.nil (TQ.then (.seq (.seq (.region (.v (.move rfl) (.v (by first | exact Val.not_dec rfl | exact Val.not rfl) ?_)))))))
      refine .nil (TQ.then ?_)
      first | refine .cond_dec rfl (fun h6 => ?_) (fun h6 => ?_) | refine .cond rfl (fun h6 => ?_) (fun h6 => ?_)
      ·
       refine .seq (.region (.v (.build (cs := [_, _, _, _]) zeroValue197 pl_197_WRef09 rfl rfl) ?_))
       refine .storeAll (us := [_, _, _, _]) sizeOf197 rfl rfl rfl rfl .up rfl ?_
       refine .v (.assign rfl) (.nil (TQ.then (.ret (.then_ret ?_))))
       exact .ret results146 (.agg isAgg197 sizeOf197 rfl .tk (by rfl) (by rfl) (.tmp rfl .nil)) k1 (by rw [hw, if_pos ⟨Classical.byContradiction h5, fun c => h6 (Mem.tk_has.2 c)⟩]; rfl) hk2 .en
      ·
       refine .skip (TQ.then (.seq (.region (.v (.loadAgg (vs := [_, _, _, _]) isAgg197 sizeOf197 rfl .tk (by rfl) (by rfl)) ?_))))
       refine .storeAll (us := [_, _, _, _]) sizeOf197 rfl rfl rfl rfl .up rfl ?_
       refine .v (.assign rfl) (.nil (TQ.then (.ret ?_)))
       exact .ret results146 (.agg isAgg197 sizeOf197 rfl .tk (by rfl) (by rfl) (.tmp rfl .nil)) k1 (by rw [hw, if_neg (fun c => c.2 (Mem.tk_has.1 (Classical.byContradiction h6))), show q.2 = 0 from Classical.byContradiction h5]; rfl) hk2 .en

set_option maxHeartbeats 400000 in
theorem S_wardenref09_Translate {m : Nat} {M : Mem} {l1 a : Int} {va : W} : Spec prog 113 [ptr m, i64 l1, w32 va, i64 a].toArray [RMemA m M] (fun x : Nat => x ≤ 2) (fun x => .tuple #[.agg #[.bool (transM M l1 va a).sec, i64 (transM M l1 va a).page], i64 (transM M l1 va a).off, i64 (transM M l1 va a).err]) (fun x => [RMemA m (M.tk x)]) := by
 refine Spec.body func113 rfl ntmps113 rfl (fun σ R => ?_)
 refine .seq (.region (.alloc zeroValue78 rfl rfl (fun b8 => ?_)))
 refine .v (.assign rfl) (.v (.assign rfl) (.nil (TQ.then (.seq (.region (.v (.move rfl) (.v (.move rfl) (.v (.move rfl) (.call call146 (S_wardenref09_Walk) rfl .pk rfl (fun x22 hx22 => ?_))))))))))
 refine .v (.move rfl) (.v (.extract rfl rfl) (.v (.extract rfl rfl) (.alloc zeroValue197 rfl rfl (fun b11 => ?_))))
 refine .storeAll (us := [_, _, _, _]) sizeOf197 rfl rfl rfl rfl .up rfl ?_
 refine .v (.assign rfl) (.nil (TQ.then (.seq (.seq (.region (.v (.move rfl) (.v (.neq rfl rfl) (.nil (TQ.then ?_)))))))))
 first | refine .cond_dec rfl (fun h1 => ?_) (fun h1 => ?_) | refine .cond rfl (fun h1 => ?_) (fun h1 => ?_)
 ·
  refine .seq (.region (.v (.build (cs := [_, _]) zeroValue78 pl_78_WRef09 rfl rfl) ?_))
  refine .v (.move rfl) (.storeAll (us := [_, _]) sizeOf78 rfl rfl rfl rfl .up rfl ?_)
  refine .v (.assign rfl) (.v (.assign rfl) (.nil (TQ.then (.ret (.then_ret ?_)))))
  exact .ret results113 (.agg isAgg78 sizeOf78 rfl .tk (by rfl) (by rfl) (.tmp rfl (.tmp rfl .nil))) x22 (by rw [transM, if_pos h1]; rfl) hx22 .en
 ·
  refine .skip (TQ.then (.seq (.region (.v (.move rfl) (.v (.eql rfl rfl) (.v (.move rfl) ?_))))))
  refine' TL.orG (k := 7) (dj := 31) (d := 38) rfl ?_ ?_ ?_
  rotate_left
  ·
   intro g38 hd
   first | replace g38 := of_decide_eq_false g38 | skip
   refine .want rfl rfl (.v (.move rfl) (.want rfl rfl (.v (.eql rfl rfl) (.want rfl rfl (.v (.move rfl) ?_)))))
   refine' TL.andG (k := 3) (dj := 34) (d := 37) rfl ?_ ?_ ?_
   rotate_left
   ·
    intro g37 hd
    first | replace g37 := of_decide_eq_true g37 | skip
    refine .want rfl rfl (.v (.field fo_197_2_WRef09 rfl) (.want rfl rfl (.v (.load isAgg4 rfl .tk (by rfl)) ?_)))
    refine .want rfl rfl (.v (.pick_true rfl rfl) (.nil ?_))
    exact .keep (Sub.cons rfl (Sub.push rfl (Sub.push rfl (Sub.push rfl (Sub.pushSame hd Sub.rfl')))))
   ·
    intro g37 hd
    refine .skip rfl rfl rfl (.skip rfl rfl rfl (.want rfl rfl (.v (.pick_false rfl rfl) (.nil ?_))))
    exact .keep (Sub.cons rfl (Sub.push rfl (Sub.push rfl (Sub.push rfl (Sub.pushSame hd Sub.rfl')))))
   first | refine .boolAnd ?_ | skip
   refine .v (.pick_false rfl rfl) (.nil ?_)
   exact .keep (Sub.cons rfl (Sub.push rfl (Sub.push rfl (Sub.push rfl (Sub.push rfl (Sub.push rfl (Sub.pushSame hd Sub.rfl')))))))
  ·
   intro g38 hd
   refine .skip rfl rfl rfl (.skip rfl rfl rfl (.skip rfl rfl rfl (.skip_undef rfl rfl rfl (.skip_undef rfl rfl rfl (.skip rfl rfl rfl (.v (.pick_true rfl rfl) (.nil ?_)))))))
   exact .keep (Sub.cons rfl (Sub.push rfl (Sub.push rfl (Sub.push rfl (Sub.push rfl (Sub.push rfl (Sub.push rfl (Sub.push rfl (Sub.pushSame hd Sub.rfl')))))))))
  first | refine .boolOr ?_ | skip
  refine .v (.move rfl) ?_
  refine' TL.orG (k := 7) (dj := 39) (d := 46) rfl ?_ ?_ ?_
  rotate_left
  ·
   intro g46 hd
   first | replace g46 := of_decide_eq_false g46 | skip
   refine .want rfl rfl (.v (.move rfl) (.want rfl rfl (.v (.eql rfl rfl) (.want rfl rfl (.v (.move rfl) ?_)))))
   refine' TL.andG (k := 3) (dj := 42) (d := 45) rfl ?_ ?_ ?_
   rotate_left
   ·
    intro g45 hd
    first | replace g45 := of_decide_eq_true g45 | skip
    refine .want rfl rfl (.v (.field fo_197_3_WRef09 rfl) (.want rfl rfl (.v (.load isAgg4 rfl .tk (by rfl)) ?_)))
    refine .want rfl rfl (.v (.pick_true rfl rfl) (.nil ?_))
    exact .keep (Sub.cons rfl (Sub.push rfl (Sub.push rfl (Sub.push rfl (Sub.pushSame hd Sub.rfl')))))
   ·
    intro g45 hd
    refine .skip rfl rfl rfl (.skip rfl rfl rfl (.want rfl rfl (.v (.pick_false rfl rfl) (.nil ?_))))
    exact .keep (Sub.cons rfl (Sub.push rfl (Sub.push rfl (Sub.push rfl (Sub.pushSame hd Sub.rfl')))))
   first | refine .boolAnd ?_ | skip
   refine .v (.pick_false rfl rfl) (.nil ?_)
   exact .keep (Sub.cons rfl (Sub.push rfl (Sub.push rfl (Sub.push rfl (Sub.push rfl (Sub.push rfl (Sub.pushSame hd Sub.rfl')))))))
  ·
   intro g46 hd
   refine .skip rfl rfl rfl (.skip rfl rfl rfl (.skip rfl rfl rfl (.skip_undef rfl rfl rfl (.skip_undef rfl rfl rfl (.skip rfl rfl rfl (.v (.pick_true rfl rfl) (.nil ?_)))))))
   exact .keep (Sub.cons rfl (Sub.push rfl (Sub.push rfl (Sub.push rfl (Sub.push rfl (Sub.push rfl (Sub.push rfl (Sub.push rfl (Sub.pushSame hd Sub.rfl')))))))))
  first | refine .boolOr ?_ | skip
  refine .v (.assign rfl) (.nil (TQ.then (.seq (.seq (.region (.v (.move rfl) (.v (by first | exact Val.not_dec rfl | exact Val.not rfl) ?_)))))))
  refine .nil (TQ.then ?_)
  first | refine .cond_dec rfl (fun h2 => ?_) (fun h2 => ?_) | refine .cond rfl (fun h2 => ?_) (fun h2 => ?_)
  ·
   refine .seq (.region (.v (.build (cs := [_, _]) zeroValue78 pl_78_WRef09 rfl rfl) ?_))
   refine .storeAll (us := [_, _]) sizeOf78 rfl rfl rfl rfl .up rfl ?_
   refine .v (.assign rfl) (.v (.assign rfl) (.nil (TQ.then (.ret (.then_ret ?_)))))
   exact .ret results113 (.agg isAgg78 sizeOf78 rfl .tk (by rfl) (by rfl) (.tmp rfl (.tmp rfl .nil))) x22 (by rw [transM, if_neg h1, if_neg (by unfold PMap.lets; revert h2; cases (walkM M l1 va).1.wr <;> cases (walkM M l1 va).1.ex <;> simp <;> omega)]; rfl) hx22 .en
  ·
   refine .skip (TQ.then (.seq (.region (.v (.move rfl) (.call call147 (S_wardenref09_Split) rfl .pk rfl (fun x52 hx52 => ?_))))))
   refine .v (.move rfl) (.v (.extract rfl rfl) (.v (.extract rfl rfl) (.v (.extract rfl rfl) (.v (.extract rfl rfl) (.v (.assign rfl) (.v (.assign rfl) (.v (.assign rfl) (.v (.assign rfl) (.nil (TQ.then (.seq (.region (.v (.field fo_197_0_WRef09 rfl) (.v (.load isAgg4 rfl .tk (by rfl)) ?_))))))))))))))
   refine .v (.field fo_197_1_WRef09 rfl) (.v (.load isAgg3 rfl .tk (by rfl)) ?_)
   refine .v (.build (cs := [_, _]) zeroValue78 pl_78_WRef09 rfl rfl) ?_
   refine .v (.move rfl) (.storeAll (us := [_, _]) sizeOf78 rfl rfl rfl rfl .up rfl ?_)
   refine .v (.assign rfl) (.v (.assign rfl) (.nil (TQ.then (.ret ?_))))
   exact .ret results113 (.agg isAgg78 sizeOf78 rfl .tk (by rfl) (by rfl) (.tmp rfl (.tmp rfl .nil))) x22 (by rw [transM, if_neg h1, if_pos (by unfold PMap.lets; revert h2; cases (walkM M l1 va).1.wr <;> cases (walkM M l1 va).1.ex <;> simp <;> omega)]; rfl) hx22 .en
end Go.Wd
