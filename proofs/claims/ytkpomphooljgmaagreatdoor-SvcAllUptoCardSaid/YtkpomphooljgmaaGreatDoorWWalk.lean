/- PROVED HERE: contracts of functions of the program, walked: each returns what the plain model says, for all items that its precondition names. No condition beyond each theorem's own. -/
import Derived.Test.YtkpomphooljgmaaGreatDoorProg
import Derived.Test.YtkpomphooljgmaaGreatDoorModel
import Derived.Test.YtkpomphooljgmaaGreatDoorPk
import Derived.Test.YtkpomphooljgmaaGreatDoorMWalk
import Derived.Test.YtkpomphooljgmaaGreatDoorWMem
namespace Go.Wd
open Go Go.Proofs Go.Proofs.Tryz
theorem S_mem_ReadT {m : Nat} {M : Mem} {sec : Bool} {pg off : Int} : Spec prog 135 [ptr m, .agg #[.bool sec, i64 pg], i64 off].toArray [MemA m M] (fun _ : Unit => True) (fun _ => .tuple #[w32 (M.peek sec pg off), i64 (M.errW sec pg off)]) (fun _ => [MemA m (M.tk (rdT M sec pg off))]) := by
 have h := S_mem_Memory_Read (m := m) (M := M) (sec := sec) (pg := pg) (off := off)
 rwa [Mem.read_val, Mem.read_err, Mem.read_mem] at h

set_option maxHeartbeats 400000 in
theorem S_walk_Split {va : W} : Spec prog 159 [w32 va].toArray [] (fun _ : Unit => True) (fun _ => .tuple #[i64 (vaI va), i64 (vaJ va), i64 (vaO va), i64 (vaE va)]) (fun _ => []) := by
 refine Spec.body func159 rfl ntmps159 rfl (fun σ R => ?_)
 refine .seq (.region (.v (.assign rfl) (.v (.assign rfl) (.v (.assign rfl) (.v (.assign rfl) (.nil (TQ.then (.seq (.seq (.region (.v (.move rfl) (.v (.geq32 (b := 1073741824#32) rfl rfl) ?_))))))))))))
 refine .v (.move rfl) ?_
 refine' TL.orG (k := 4) (dj := 8) (d := 12) rfl ?_ ?_ ?_
 rotate_left
 ·
  intro g12 hd
  first | replace g12 := of_decide_eq_false g12 | skip
  refine .want rfl rfl (.v (.move rfl) (.want rfl rfl (.v (.rem32 (b := 4#32) rfl rfl (by decide)) ?_)))
  refine .want rfl rfl (.v (.neq32 (b := 0#32) rfl rfl) ?_)
  refine .v (.pick_false rfl rfl) (.nil ?_)
  exact .keep (Sub.cons rfl (Sub.push rfl (Sub.push rfl (Sub.push rfl (Sub.push rfl (Sub.pushSame hd Sub.rfl'))))))
 ·
  intro g12 hd
  refine .skip rfl rfl rfl (.skip rfl rfl rfl (.skip rfl rfl rfl (.v (.pick_true rfl rfl) (.nil ?_))))
  exact .keep (Sub.cons rfl (Sub.push rfl (Sub.push rfl (Sub.push rfl (Sub.push rfl (Sub.pushSame hd Sub.rfl'))))))
 first | refine .boolOr ?_ | skip
 refine .nil (TQ.then ?_)
 first | refine .cond_dec rfl (fun h1 => ?_) (fun h1 => ?_) | refine .cond rfl (fun h1 => ?_) (fun h1 => ?_)
 ·
  refine .seq (.region (.v (.assign rfl) (.v (.assign rfl) (.v (.assign rfl) (.v (.assign rfl) (.nil (TQ.then (.ret (.then_ret ?_)))))))))
  exact .ret results159 (.tmp rfl (.tmp rfl (.tmp rfl (.tmp rfl .nil)))) () (split_bad h1).symm trivial .en
 ·
  refine .skip (TQ.then (.seq (.region (.v (.move rfl) (.v (.shr32 (k := 22) (by decide) rfl rfl) ?_)))))
  refine .v (.conv_32_64 underlying23 underlying3 rfl) ?_
  refine .v (.move rfl) (.v (.shr32 (k := 12) (by decide) rfl rfl) ?_)
  refine .v (.and32 (b := 1023#32) rfl rfl) (.v (.conv_32_64 underlying23 underlying3 rfl) ?_)
  refine .v (.move rfl) (.v (.shr32 (k := 2) (by decide) rfl rfl) ?_)
  refine .v (.and32 (b := 1023#32) rfl rfl) (.v (.conv_32_64 underlying23 underlying3 rfl) ?_)
  refine .v (.assign rfl) (.v (.assign rfl) (.v (.assign rfl) (.v (.assign rfl) (.nil (TQ.then (.ret ?_))))))
  exact .ret results159 (.tmp rfl (.tmp rfl (.tmp rfl (.tmp rfl .nil)))) () (split_good h1).symm trivial .en

theorem pl_39_WWalk : Places prog 39 [(0, 1), (1, 1)] := ⟨_, underlying39, fun w => by simp [sizeOf3, sizeOf4]⟩
set_option maxHeartbeats 400000 in
theorem S_walk_secured {p : Int} : Spec prog 184 [i64 p].toArray [] (fun _ : Unit => True) (fun _ => .agg #[.bool true, i64 p]) (fun _ => []) := by
 refine Spec.body func184 rfl ntmps184 rfl (fun σ R => ?_)
 refine .seq (.region (.alloc zeroValue39 rfl rfl (fun b2 => ?_)))
 refine .nil (TQ.then (.seq (.region (.v (.move rfl) (.v (.build (cs := [_, _]) zeroValue39 pl_39_WWalk rfl rfl) ?_)))))
 refine .storeAll (us := [_, _]) sizeOf39 rfl rfl rfl rfl .up rfl ?_
 refine .nil (TQ.then (.ret ?_))
 exact .ret results184 (.agg isAgg39 sizeOf39 rfl .tk (by rfl) (by rfl) .nil) () (by first | rfl | simp [tup, *]) trivial .en

set_option maxHeartbeats 400000 in
theorem S_walk_First {p : Int} : Spec prog 166 [i64 p].toArray [] (fun _ : Unit => True) (fun _ => .tuple #[w32 (first p).1, i64 (first p).2]) (fun _ => []) := by
 refine Spec.body func166 rfl ntmps166 rfl (fun σ R => ?_)
 refine .seq (.region (.v (.assign (v := w32 0#32) rfl) (.v (.assign rfl) (.nil (TQ.then (.seq (.seq (.region (.v (.move rfl) (.v (.lss rfl rfl) (.v (.move rfl) ?_)))))))))))
 refine' TL.orG (k := 3) (dj := 6) (d := 9) rfl ?_ ?_ ?_
 rotate_left
 ·
  intro g9 hd
  first | replace g9 := of_decide_eq_false g9 | skip
  refine .want rfl rfl (.v (.move rfl) (.want rfl rfl (.v (.geq rfl rfl) (.v (.pick_false rfl rfl) (.nil ?_)))))
  exact .keep (Sub.cons rfl (Sub.push rfl (Sub.push rfl (Sub.push rfl (Sub.pushSame hd Sub.rfl')))))
 ·
  intro g9 hd
  refine .skip rfl rfl rfl (.skip rfl rfl rfl (.v (.pick_true rfl rfl) (.nil ?_)))
  exact .keep (Sub.cons rfl (Sub.push rfl (Sub.push rfl (Sub.push rfl (Sub.pushSame hd Sub.rfl')))))
 first | refine .boolOr ?_ | skip
 refine .nil (TQ.then ?_)
 first | refine .cond_dec rfl (fun h1 => ?_) (fun h1 => ?_) | refine .cond rfl (fun h1 => ?_) (fun h1 => ?_)
 ·
  refine .seq (.region (.v (.assign (v := w32 0#32) rfl) (.v (.assign rfl) (.nil (TQ.then (.ret (.then_ret ?_)))))))
  exact .ret results166 (.tmp rfl (.tmp rfl .nil)) () (by rw [first, if_neg (by omega)]; rfl) trivial .en
 ·
  refine .skip (TQ.then (.seq (.region (.v (.move rfl) (.v (.conv_64_32 underlying3 underlying23 rfl) ?_)))))
  refine .v (.shl32 (k := 8) (by decide) rfl rfl) ?_
  refine .v (.or32 (b := 1#32) rfl rfl) (.v (.assign rfl) (.v (.assign rfl) (.nil (TQ.then (.ret ?_)))))
  exact .ret results166 (.tmp rfl (.tmp rfl .nil)) () (by rw [first, if_pos (by omega), ← first_bits (by omega)]; rfl) trivial .en

set_option maxHeartbeats 400000 in
theorem S_walk_parsed_int {w : W} : Spec prog 194 [w32 w, i64 ((w >>> 8).toNat : Int), .func (.func 166) #[] #[]].toArray [] (fun _ : Unit => True) (fun _ => .tuple #[i64 (parseFirst w).1, i64 (parseFirst w).2]) (fun _ => []) := by
 refine Spec.body func194 rfl ntmps194 rfl (fun σ R => ?_)
 refine .seq (.region (.v (.assign rfl) (.v (.assign rfl) (.nil (TQ.then (.seq (.region (.v (.assign rfl) (.nil (TQ.then (.seq (.seq (.region (.v (.move rfl) (.v (.eql32 (b := 0#32) rfl rfl) ?_)))))))))))))))
 refine .nil (TQ.then ?_)
 first | refine .cond_dec rfl (fun h1 => ?_) (fun h1 => ?_) | refine .cond rfl (fun h1 => ?_) (fun h1 => ?_)
 ·
  refine .seq (.region (.v (.move rfl) (.v (.assign rfl) (.v (.assign rfl) (.nil (TQ.then (.ret (.then_ret ?_))))))))
  exact .ret results194 (.tmp rfl (.tmp rfl .nil)) () (by rw [parseFirst_zero h1]; rfl) trivial .en
 ·
  refine .skip (TQ.then (.seq (.seq (.region (.v (.move rfl) (.v (.move rfl) (.callV (fs := []) (cs := []) rfl call166 rfl (S_walk_First (p := ((w >>> 8).toNat : Int))) .pk rfl (fun x17 hx17 => ?_))))))))
  refine .v (.move rfl) (.v (.extract rfl rfl) (.v (.extract rfl rfl) (.v (.assign rfl) (.v (.assign rfl) (.nil (TQ.then (.seq (.region (.v (.move rfl) (.v (.neq rfl rfl) (.v (.move rfl) ?_)))))))))))
  refine' TL.orG (k := 4) (dj := 22) (d := 26) rfl ?_ ?_ ?_
  rotate_left
  ·
   intro g26 hd
   first | replace g26 := of_decide_eq_false g26 | skip
   refine .want rfl rfl (.v (.move rfl) (.want rfl rfl (.v (.move rfl) (.want rfl rfl (.v (.neq32 rfl rfl) ?_)))))
   refine .v (.pick_false rfl rfl) (.nil ?_)
   exact .keep (Sub.cons rfl (Sub.push rfl (Sub.push rfl (Sub.push rfl (Sub.push rfl (Sub.pushSame hd Sub.rfl'))))))
  ·
   intro g26 hd
   refine .skip rfl rfl rfl (.skip rfl rfl rfl (.skip rfl rfl rfl (.v (.pick_true rfl rfl) (.nil ?_))))
   exact .keep (Sub.cons rfl (Sub.push rfl (Sub.push rfl (Sub.push rfl (Sub.push rfl (Sub.pushSame hd Sub.rfl'))))))
  first | refine .boolOr ?_ | skip
  refine .nil (TQ.then ?_)
  first | refine .cond_dec rfl (fun h2 => ?_) (fun h2 => ?_) | refine .cond rfl (fun h2 => ?_) (fun h2 => ?_)
  ·
   refine .seq (.region (.v (.move rfl) (.v (.assign rfl) (.v (.assign rfl) (.nil (TQ.then (.ret (.then_ret ?_))))))))
   exact .ret results194 (.tmp rfl (.tmp rfl .nil)) () (by rw [parseFirst_bad h1 h2]; rfl) trivial .en
  ·
   refine .skip (TQ.then (.seq (.region (.v (.move rfl) (.v (.assign rfl) (.v (.assign rfl) (.nil (TQ.then (.ret ?_)))))))))
   exact .ret results194 (.tmp rfl (.tmp rfl .nil)) () (by rw [parseFirst_good h1 h2]; rfl) trivial .en

set_option maxHeartbeats 400000 in
theorem S_walk_ParseFirst {w : W} : Spec prog 185 [w32 w].toArray [] (fun _ : Unit => True) (fun _ => .tuple #[i64 (parseFirst w).1, i64 (parseFirst w).2]) (fun _ => []) := by
 refine Spec.body func185 rfl ntmps185 rfl (fun σ R => ?_)
 refine .seq (.region (.v (.assign rfl) (.v (.assign rfl) (.nil (TQ.then (.seq (.region (.v (.move rfl) (.v (.move rfl) (.v (.shr32 (k := 8) (by decide) rfl rfl) ?_))))))))))
 refine .v (.conv_32_64 underlying23 underlying3 rfl) ?_
 refine .call call194 (S_walk_parsed_int (w := w)) rfl .pk rfl (fun x8 hx8 => ?_)
 refine .v (.extract rfl rfl) (.v (.extract rfl rfl) (.v (.assign rfl) (.v (.assign rfl) (.nil (TQ.then (.ret ?_))))))
 exact .ret results185 (.tmp rfl (.tmp rfl .nil)) () rfl trivial .en

set_option maxHeartbeats 400000 in
theorem S_walk_table {m : Nat} {M : Mem} {l1 i : Int} : Spec prog 172 [ptr m, i64 l1, i64 i].toArray [MemA m M] (fun x : Nat => x ≤ 1) (fun x => .tuple #[i64 (tableM M l1 i).1, i64 (tableM M l1 i).2]) (fun x => [MemA m (M.tk x)]) := by
 refine Spec.body func172 rfl ntmps172 rfl (fun σ R => ?_)
 refine .seq (.region (.v (.assign rfl) (.v (.assign rfl) (.nil (TQ.then (.seq (.region (.v (.move rfl) (.v (.move rfl) (.call call184 (S_walk_secured) rfl .pk rfl (fun x14 hx14 => ?_)))))))))))
 refine .v (.move rfl) (.call call135 (S_mem_ReadT) rfl .pk rfl (fun x16 hx16 => ?_))
 refine .v (.move rfl) (.v (.extract rfl rfl) (.v (.extract rfl rfl) (.v (.assign rfl) (.v (.assign rfl) (.nil (TQ.then (.seq (.seq (.region (.v (.move rfl) (.v (.neq rfl rfl) (.nil (TQ.then ?_)))))))))))))
 first | refine .cond_dec rfl (fun h1 => ?_) (fun h1 => ?_) | refine .cond rfl (fun h1 => ?_) (fun h1 => ?_)
 ·
  refine .seq (.region (.v (.move rfl) (.v (.assign rfl) (.v (.assign rfl) (.nil (TQ.then (.ret (.then_ret ?_))))))))
  exact .ret results172 (.tmp rfl (.tmp rfl .nil)) (rdT M true l1 i) (by rw [tableM, if_pos h1]; rfl) rdT_le .en
 ·
  refine .skip (TQ.then (.seq (.region (.v (.move rfl) (.call call185 (S_walk_ParseFirst) rfl .pk rfl (fun x24 hx24 => ?_))))))
  refine .v (.move rfl) (.v (.extract rfl rfl) (.v (.extract rfl rfl) (.v (.assign rfl) (.v (.assign rfl) (.nil (TQ.then (.seq (.seq (.region (.v (.move rfl) (.v (.eql rfl rfl) (.v (.move rfl) ?_))))))))))))
  refine' TL.andG (k := 6) (dj := 29) (d := 35) rfl ?_ ?_ ?_
  rotate_left
  ·
   intro g35 hd
   first | replace g35 := of_decide_eq_true g35 | skip
   refine .want rfl rfl (.v (.move rfl) (.want rfl rfl (.v (.move rfl) (.want rfl rfl (.call call184 (S_walk_secured) rfl .pk rfl (fun x32 hx32 => ?_))))))
   refine .want rfl rfl (.call call176 (S_mem_Memory_Has) rfl .pk rfl (fun x33 hx33 => ?_))
   refine .want rfl rfl (.v (by first | exact Val.not_dec rfl | exact Val.not rfl) ?_)
   refine .v (.pick_true rfl rfl) (.nil ?_)
   exact .keepE (Sub.cons rfl (Sub.push rfl (Sub.push rfl (Sub.push rfl (Sub.push rfl (Sub.push rfl (Sub.push rfl (Sub.pushSame hd Sub.rfl')))))))) .en
  ·
   intro g35 hd
   refine .skip rfl rfl rfl (.skip rfl rfl rfl (.skip rfl rfl rfl (.skip rfl rfl rfl (.skip rfl rfl rfl (.v (.pick_false rfl rfl) (.nil ?_))))))
   exact .keepE (Sub.cons rfl (Sub.push rfl (Sub.push rfl (Sub.push rfl (Sub.push rfl (Sub.push rfl (Sub.push rfl (Sub.pushSame hd Sub.rfl')))))))) .en
  first | refine .boolAnd ?_ | skip
  refine .nil (TQ.then ?_)
  first | refine .cond_dec rfl (fun h2 => ?_) (fun h2 => ?_) | refine .cond rfl (fun h2 => ?_) (fun h2 => ?_)
  ·
   refine .seq (.region (.v (.assign rfl) (.v (.assign rfl) (.nil (TQ.then (.ret (.then_ret ?_)))))))
   exact .ret results172 (.tmp rfl (.tmp rfl .nil)) (rdT M true l1 i) (by rw [tableM, if_neg h1, if_pos ⟨h2.1, fun c => h2.2 (Mem.tk_has.2 c)⟩]; rfl) rdT_le .en
  ·
   refine .skip (TQ.then (.seq (.region (.v (.move rfl) (.v (.move rfl) (.v (.assign rfl) (.v (.assign rfl) (.nil (TQ.then (.ret ?_))))))))))
   exact .ret results172 (.tmp rfl (.tmp rfl .nil)) (rdT M true l1 i) (by rw [tableM, if_neg h1, if_neg (fun c => h2 ⟨c.1, fun d => c.2 (Mem.tk_has.1 d)⟩)]; rfl) rdT_le .en

theorem fo_39_0_WWalk : FieldOff prog 39 0 0 := FieldOff.of 4 1 underlying39 rfl sizeOf4 rfl
theorem fo_39_1_WWalk : FieldOff prog 39 1 1 := FieldOff.of 3 1 underlying39 rfl sizeOf3 rfl
theorem fo_224_0_WWalk : FieldOff prog 224 0 0 := FieldOff.of 39 2 underlying224 rfl sizeOf39 rfl
theorem fo_224_1_WWalk : FieldOff prog 224 1 2 := FieldOff.of 4 1 underlying224 rfl sizeOf4 rfl
theorem fo_224_2_WWalk : FieldOff prog 224 2 3 := FieldOff.of 4 1 underlying224 rfl sizeOf4 rfl
theorem fo_261_0_WWalk : FieldOff prog 261 0 0 := FieldOff.of 4 1 underlying261 rfl sizeOf4 rfl
theorem fo_261_1_WWalk : FieldOff prog 261 1 1 := FieldOff.of 23 1 underlying261 rfl sizeOf23 rfl
theorem pl_261_WWalk : Places prog 261 [(0, 1), (1, 1)] := ⟨_, underlying261, fun w => by simp [sizeOf4, sizeOf23]⟩
set_option maxHeartbeats 400000 in
theorem S_walk_Second {x : PMap} : Spec prog 163 [x.val].toArray [] (fun _ : Unit => True) (fun _ => .tuple #[w32 (second x).1, i64 (second x).2]) (fun _ => []) := by
 refine Spec.body func163 rfl ntmps163 rfl (fun σ R => ?_)
 refine .seq (.region (.box (vs := [_, _, _, _]) rfl rfl rfl (fun b1 => ?_)))
 refine .v (.assign (v := w32 0#32) rfl) (.v (.assign rfl) (.nil (TQ.then (.seq (.seq (.region (.v (.field fo_224_0_WWalk rfl) (.v (.field fo_39_1_WWalk rfl) (.v (.load isAgg3 rfl .tk (by rfl)) ?_)))))))))
 refine .v (.lss rfl rfl) (.v (.move rfl) ?_)
 refine' TL.orG (k := 5) (dj := 11) (d := 16) rfl ?_ ?_ ?_
 rotate_left
 ·
  intro g16 hd
  first | replace g16 := of_decide_eq_false g16 | skip
  refine .want rfl rfl (.v (.field fo_224_0_WWalk rfl) (.want rfl rfl (.v (.field fo_39_1_WWalk rfl) (.want rfl rfl (.v (.load isAgg3 rfl .tk (by rfl)) ?_)))))
  refine .want rfl rfl (.v (.gtr rfl rfl) (.v (.pick_false rfl rfl) (.nil ?_)))
  exact .keep (Sub.cons rfl (Sub.push rfl (Sub.push rfl (Sub.push rfl (Sub.push rfl (Sub.push rfl (Sub.pushSame hd Sub.rfl')))))))
 ·
  intro g16 hd
  refine .skip rfl rfl rfl (.skip rfl rfl rfl (.skip rfl rfl rfl (.skip rfl rfl rfl (.v (.pick_true rfl rfl) (.nil ?_)))))
  exact .keep (Sub.cons rfl (Sub.push rfl (Sub.push rfl (Sub.push rfl (Sub.push rfl (Sub.push rfl (Sub.pushSame hd Sub.rfl')))))))
 first | refine .boolOr ?_ | skip
 refine .nil (TQ.then ?_)
 first | refine .cond_dec rfl (fun h1 => ?_) (fun h1 => ?_) | refine .cond rfl (fun h1 => ?_) (fun h1 => ?_)
 ·
  refine .seq (.region (.v (.assign (v := w32 0#32) rfl) (.v (.assign rfl) (.nil (TQ.then (.ret (.then_ret ?_)))))))
  exact .ret results163 (.tmp rfl (.tmp rfl .nil)) () (by rw [second, if_pos (by omega)]; rfl) trivial .en
 ·
  refine .skip (TQ.then (.seq (.seq (.region (.v (.field fo_224_2_WWalk rfl) (.v (.load isAgg4 rfl .tk (by rfl)) ?_))))))
  refine .v (.move rfl) ?_
  refine' TL.andG (k := 5) (dj := 19) (d := 24) rfl ?_ ?_ ?_
  rotate_left
  ·
   intro g24 hd
   first | replace g24 := of_decide_eq_true g24 | skip
   refine .want rfl rfl (.v (.field fo_224_0_WWalk rfl) (.want rfl rfl (.v (.field fo_39_0_WWalk rfl) (.want rfl rfl (.v (.load isAgg4 rfl .tk (by rfl)) ?_)))))
   refine .want rfl rfl (.v (by first | exact Val.not_dec rfl | exact Val.not rfl) ?_)
   refine .v (.pick_true rfl rfl) (.nil ?_)
   exact .keep (Sub.cons rfl (Sub.push rfl (Sub.push rfl (Sub.push rfl (Sub.push rfl (Sub.push rfl (Sub.pushSame hd Sub.rfl')))))))
  ·
   intro g24 hd
   refine .skip rfl rfl rfl (.skip rfl rfl rfl (.skip rfl rfl rfl (.skip rfl rfl rfl (.v (.pick_false rfl rfl) (.nil ?_)))))
   exact .keep (Sub.cons rfl (Sub.push rfl (Sub.push rfl (Sub.push rfl (Sub.push rfl (Sub.push rfl (Sub.pushSame hd Sub.rfl')))))))
  first | refine .boolAnd ?_ | skip
  refine .nil (TQ.then ?_)
  first | refine .cond_dec rfl (fun h2 => ?_) (fun h2 => ?_) | refine .cond rfl (fun h2 => ?_) (fun h2 => ?_)
  ·
   refine .seq (.region (.v (.assign (v := w32 0#32) rfl) (.v (.assign rfl) (.nil (TQ.then (.ret (.then_ret ?_)))))))
   exact .ret results163 (.tmp rfl (.tmp rfl .nil)) () (by rw [second, if_neg (by omega), if_pos (by simpa using h2)]; rfl) trivial .en
  ·
   have hp : 0 ≤ x.page ∧ x.page < 64 := by omega
   have h3 : ¬ (x.ex = true ∧ x.sec = false) := by simpa using h2
   refine .skip (TQ.then (.seq (.region (.v (.field fo_224_0_WWalk rfl) (.v (.field fo_39_1_WWalk rfl) (.v (.load isAgg3 rfl .tk (by rfl)) ?_))))))
   refine .v (.conv_64_32 underlying3 underlying23 rfl) ?_
   refine .v (.shl32 (k := 8) (by decide) rfl rfl) ?_
   refine .v (.or32 (b := 1#32) rfl rfl) (.v (.assign rfl) (.nil (TQ.then (.seq (.seq (.region (.v (.field fo_224_0_WWalk rfl) (.v (.field fo_39_0_WWalk rfl) (.v (.load isAgg4 rfl .tk (by rfl)) ?_)))))))))
   refine .v (.build (cs := [_, _]) zeroValue261 pl_261_WWalk rfl rfl) ?_
   refine .v (.field fo_224_1_WWalk rfl) (.v (.load isAgg4 rfl .tk (by rfl)) ?_)
   refine .v (.build (cs := [_, _]) zeroValue261 pl_261_WWalk rfl rfl) ?_
   refine .v (.field fo_224_2_WWalk rfl) (.v (.load isAgg4 rfl .tk (by rfl)) ?_)
   refine .v (.build (cs := [_, _]) zeroValue261 pl_261_WWalk rfl rfl) ?_
   refine .buildSlice (zs := [.bool false, .int .u32 0, .bool false, .int .u32 0, .bool false, .int .u32 0]) (cs := [.bool x.sec, w32 2#32, .bool x.wr, w32 4#32, .bool x.ex, w32 8#32]) underlying262 sizeOf261 zeroValue261 rfl rfl rfl (by kernel_rfl) rfl rfl (fun b41 => ?_)
   refine .v (.len underlying262 rfl) ?_
   refine .v (.move rfl) (.nil (TQ.then (.block (.loop (X := {i : Nat // i ≤ 3}) (s0 := [(41, _), (42, _)]) (fun z => [(4, w32 (x.acc z.1)), (43, i64 z.1)]) (fun z => []) (fun z => 3 - z.1) ⟨0, by decide⟩ .st .pk (fun z => ?_)))))
   refine .seq ?_
   skip
   refine .region (.v (.lss rfl rfl) (.nil (TQ.then (.seq ?_))))
   first | refine .cond_dec rfl (fun h3 => ?_) (fun h3 => ?_) | refine .cond rfl (fun h3 => ?_) (fun h3 => ?_)
   ·
    obtain ⟨i, hi⟩ := z
    dsimp only at hi h3 ⊢
    have hlt : i < 3 := by omega
    refine .skip (TQ.then (.seq (.block (.seq (.region (.v (.ixSlice underlying262 sizeOf261 rfl rfl (by omega)) ?_))))))
    refine .v (.loadAgg (vs := [.bool (x.bit i), w32 (bitK i)]) isAgg261 sizeOf261 rfl .tk (bit_cells hlt) rfl) ?_
    refine .alloc zeroValue261 rfl rfl (fun b6 => ?_)
    refine .storeAll (us := [_, _]) sizeOf261 rfl rfl rfl rfl .up rfl ?_
    refine .nil (TQ.then (.seq (.region (.v (.field fo_261_0_WWalk rfl) (.v (.load isAgg4 rfl .tk (by rfl)) ?_)))))
    refine .nil (TQ.then ?_)
    first | refine .cond_dec rfl (fun h4 => ?_) (fun h4 => ?_) | refine .cond rfl (fun h4 => ?_) (fun h4 => ?_)
    ·
     refine .region (.v (.move rfl) (.v (.field fo_261_1_WWalk rfl) (.v (.load isAgg23 rfl .tk (by rfl)) ?_)))
     refine .v (.or32 rfl rfl) (.v (.assign rfl) (.nil (.blk_normal (TQ.then (.region (.v (.add64 rfl rfl (by omega)) ?_))))))
     refine .v (.move rfl) (.nil ?_)
     have ha : x.acc i ||| bitK i = x.acc (i + 1) := by rw [PMap.acc, if_pos h4]
     rw [ha]
     exact .next ⟨i + 1, by omega⟩ (by dsimp only; omega) .st .en
    ·
     refine .skip (.blk_normal (TQ.then (.region (.v (.add64 rfl rfl (by omega)) ?_))))
     refine .v (.move rfl) (.nil ?_)
     have ha : x.acc i = x.acc (i + 1) := by rw [PMap.acc, if_neg (by rw [h4]; decide)]
     rw [ha]
     exact .next ⟨i + 1, by omega⟩ (by dsimp only; omega) .st .en
   ·
    obtain ⟨i, hi⟩ := z
    dsimp only at hi h3 ⊢
    obtain rfl : i = 3 := by omega
    refine .exit (.then_exit (.then_exit (.blk_hit (TQ.then (.seq (.region (.v (.move rfl) (.v (.assign rfl) (.v (.assign rfl) (.nil (TQ.then (.ret ?_))))))))))))
    exact .ret results163 (.tmp rfl (.tmp rfl .nil)) () (by rw [second, if_neg (fun c => c hp), if_neg (by simpa using h2), ← PMap.acc_bits hp]; rfl) trivial .en

set_option maxHeartbeats 400000 in
theorem S_walk_parsed_walk_Map {w : W} {g : PMap} (hg : g = guess2 w) : Spec prog 186 [w32 w, g.val, .func (.func 163) #[] #[]].toArray [] (fun _ : Unit => True) (fun _ => .tuple #[(parseSecond w).1.val, i64 (parseSecond w).2]) (fun _ => []) := by
 refine Spec.body func186 rfl ntmps186 rfl (fun σ R => ?_)
 refine .seq (.region (.box (vs := [_, _, _, _]) rfl rfl rfl (fun b4 => ?_)))
 refine .alloc zeroValue224 rfl rfl (fun b6 => ?_)
 refine .v (.assign rfl) (.nil (TQ.then (.seq (.region (.alloc zeroValue224 rfl rfl (fun b8 => ?_))))))
 refine .nil (TQ.then (.seq (.seq (.region (.v (.move rfl) (.v (.eql32 (b := 0#32) rfl rfl) ?_))))))
 refine .nil (TQ.then ?_)
 first | refine .cond_dec rfl (fun h1 => ?_) (fun h1 => ?_) | refine .cond rfl (fun h1 => ?_) (fun h1 => ?_)
 ·
  refine .seq (.region (.v (.loadAgg (vs := [_, _, _, _]) isAgg224 sizeOf224 rfl .tk (by rfl) (by rfl)) ?_))
  refine .storeAll (us := [_, _, _, _]) sizeOf224 rfl rfl rfl rfl .up rfl ?_
  refine .v (.assign rfl) (.nil (TQ.then (.ret (.then_ret ?_))))
  exact .ret results186 (.agg isAgg224 sizeOf224 rfl .tk (by rfl) (by rfl) (.tmp rfl .nil)) () (by rw [parseSecond, if_pos h1]; rfl) trivial .en
 ·
  refine .skip (TQ.then (.seq (.seq (.region (.v (.move rfl) (.v (.loadAgg (vs := [_, _, _, _]) isAgg224 sizeOf224 rfl .tk (by rfl) (by rfl)) ?_))))))
  refine .callV (fs := []) (cs := []) rfl call163 rfl (S_walk_Second (x := g)) .pk rfl (fun x17 hx17 => ?_)
  refine .v (.move rfl) (.v (.extract rfl rfl) (.v (.extract rfl rfl) (.v (.assign rfl) (.v (.assign rfl) (.nil (TQ.then (.seq (.region (.v (.move rfl) (.v (.neq rfl rfl) (.v (.move rfl) ?_)))))))))))
  refine' TL.orG (k := 4) (dj := 22) (d := 26) rfl ?_ ?_ ?_
  rotate_left
  ·
   intro g26 hd
   first | replace g26 := of_decide_eq_false g26 | skip
   refine .want rfl rfl (.v (.move rfl) (.want rfl rfl (.v (.move rfl) (.want rfl rfl (.v (.neq32 rfl rfl) ?_)))))
   refine .v (.pick_false rfl rfl) (.nil ?_)
   exact .keep (Sub.cons rfl (Sub.push rfl (Sub.push rfl (Sub.push rfl (Sub.push rfl (Sub.pushSame hd Sub.rfl'))))))
  ·
   intro g26 hd
   refine .skip rfl rfl rfl (.skip rfl rfl rfl (.skip rfl rfl rfl (.v (.pick_true rfl rfl) (.nil ?_))))
   exact .keep (Sub.cons rfl (Sub.push rfl (Sub.push rfl (Sub.push rfl (Sub.push rfl (Sub.pushSame hd Sub.rfl'))))))
  first | refine .boolOr ?_ | skip
  refine .nil (TQ.then ?_)
  first | refine .cond_dec rfl (fun h2 => ?_) (fun h2 => ?_) | refine .cond rfl (fun h2 => ?_) (fun h2 => ?_)
  ·
   refine .seq (.region (.v (.loadAgg (vs := [_, _, _, _]) isAgg224 sizeOf224 rfl .tk (by rfl) (by rfl)) ?_))
   refine .storeAll (us := [_, _, _, _]) sizeOf224 rfl rfl rfl rfl .up rfl ?_
   refine .v (.assign rfl) (.nil (TQ.then (.ret (.then_ret ?_))))
   exact .ret results186 (.agg isAgg224 sizeOf224 rfl .tk (by rfl) (by rfl) (.tmp rfl .nil)) () (by subst hg; rw [parseSecond, if_neg h1, if_pos h2]; rfl) trivial .en
  ·
   refine .skip (TQ.then (.seq (.region (.v (.loadAgg (vs := [_, _, _, _]) isAgg224 sizeOf224 rfl .tk (by rfl) (by rfl)) ?_))))
   refine .storeAll (us := [_, _, _, _]) sizeOf224 rfl rfl rfl rfl .up rfl ?_
   refine .v (.assign rfl) (.nil (TQ.then (.ret ?_)))
   exact .ret results186 (.agg isAgg224 sizeOf224 rfl .tk (by rfl) (by rfl) (.tmp rfl .nil)) () (by subst hg; rw [parseSecond, if_neg h1, if_neg h2]; rfl) trivial .en

theorem pl_224_WWalk : Places prog 224 [(0, 2), (2, 1), (3, 1)] := ⟨_, underlying224, fun w => by simp [sizeOf4, sizeOf39]⟩
set_option maxHeartbeats 400000 in
theorem S_walk_ParseSecond {w : W} : Spec prog 175 [w32 w].toArray [] (fun _ : Unit => True) (fun _ => .tuple #[(parseSecond w).1.val, i64 (parseSecond w).2]) (fun _ => []) := by
 refine Spec.body func175 rfl ntmps175 rfl (fun σ R => ?_)
 refine .seq (.region (.alloc zeroValue224 rfl rfl (fun b2 => ?_)))
 refine .v (.assign rfl) (.nil (TQ.then (.seq (.region (.v (.move rfl) (.v (.move rfl) (.v (.and32 (b := 2#32) rfl rfl) (.v (.neq32 (b := 0#32) rfl rfl) ?_))))))))
 refine .v (.move rfl) (.v (.shr32 (k := 8) (by decide) rfl rfl) ?_)
 refine .v (.conv_32_64 underlying23 underlying3 rfl) ?_
 refine .v (.build (cs := [_, _]) zeroValue39 pl_39_WWalk rfl rfl) ?_
 refine .v (.move rfl) (.v (.and32 (b := 4#32) rfl rfl) (.v (.neq32 (b := 0#32) rfl rfl) ?_))
 refine .v (.move rfl) (.v (.and32 (b := 8#32) rfl rfl) (.v (.neq32 (b := 0#32) rfl rfl) ?_))
 refine .v (.build (cs := [_, _, _, _]) zeroValue224 pl_224_WWalk rfl rfl) ?_
 refine .call call186 (S_walk_parsed_walk_Map (w := w) (g := ⟨_, _, _, _⟩) guess2_bits) rfl .pk rfl (fun x19 hx19 => ?_)
 refine .v (.extract rfl rfl) (.v (.extract rfl rfl) (.storeAll (us := [_, _, _, _]) sizeOf224 rfl rfl rfl rfl .up rfl ?_))
 refine .v (.assign rfl) (.nil (TQ.then (.ret ?_)))
 exact .ret results175 (.agg isAgg224 sizeOf224 rfl .tk (by rfl) (by rfl) (.tmp rfl .nil)) () rfl trivial .en

set_option maxHeartbeats 400000 in
theorem S_walk_place {m : Nat} {M : Mem} {l2 j : Int} : Spec prog 173 [ptr m, i64 l2, i64 j].toArray [MemA m M] (fun x : Nat => x ≤ 1) (fun x => .tuple #[(placeM M l2 j).1.val, i64 (placeM M l2 j).2]) (fun x => [MemA m (M.tk x)]) := by
 refine Spec.body func173 rfl ntmps173 rfl (fun σ R => ?_)
 refine .seq (.region (.alloc zeroValue224 rfl rfl (fun b6 => ?_)))
 refine .v (.assign rfl) (.nil (TQ.then (.seq (.region (.v (.move rfl) (.v (.move rfl) (.call call184 (S_walk_secured) rfl .pk rfl (fun x14 hx14 => ?_))))))))
 refine .v (.move rfl) (.call call135 (S_mem_ReadT) rfl .pk rfl (fun x16 hx16 => ?_))
 refine .v (.move rfl) (.v (.extract rfl rfl) (.v (.extract rfl rfl) (.v (.assign rfl) (.v (.assign rfl) (.nil (TQ.then (.seq (.seq (.region (.v (.move rfl) (.v (.neq rfl rfl) (.nil (TQ.then ?_)))))))))))))
 first | refine .cond_dec rfl (fun h1 => ?_) (fun h1 => ?_) | refine .cond rfl (fun h1 => ?_) (fun h1 => ?_)
 ·
  refine .seq (.region (.v (.build (cs := [_, _, _, _]) zeroValue224 pl_224_WWalk rfl rfl) ?_))
  refine .v (.move rfl) (.storeAll (us := [_, _, _, _]) sizeOf224 rfl rfl rfl rfl .up rfl ?_)
  refine .v (.assign rfl) (.nil (TQ.then (.ret (.then_ret ?_))))
  exact .ret results173 (.agg isAgg224 sizeOf224 rfl .tk (by rfl) (by rfl) (.tmp rfl .nil)) (rdT M true l2 j) (by rw [placeM, if_pos h1]; rfl) rdT_le .en
 ·
  refine .skip (TQ.then (.seq (.region (.v (.move rfl) (.call call175 (S_walk_ParseSecond) rfl .pk rfl (fun x25 hx25 => ?_))))))
  refine .v (.move rfl) (.v (.extract rfl rfl) (.v (.extract rfl rfl) (.alloc zeroValue224 rfl rfl (fun b10 => ?_))))
  refine .storeAll (us := [_, _, _, _]) sizeOf224 rfl rfl rfl rfl .up rfl ?_
  refine .v (.assign rfl) (.nil (TQ.then (.seq (.seq (.region (.v (.move rfl) (.v (.eql rfl rfl) (.v (.move rfl) ?_))))))))
  refine' TL.andG (k := 6) (dj := 30) (d := 36) rfl ?_ ?_ ?_
  rotate_left
  ·
   intro g36 hd
   first | replace g36 := of_decide_eq_true g36 | skip
   refine .want rfl rfl (.v (.move rfl) (.want rfl rfl (.v (.field fo_224_0_WWalk rfl) (.want rfl rfl (.v (.loadAgg (vs := [_, _]) isAgg39 sizeOf39 rfl .tk (by rfl) (by rfl)) ?_)))))
   refine .want rfl rfl (.call call176 (S_mem_Memory_Has) rfl .pk rfl (fun x34 hx34 => ?_))
   refine .want rfl rfl (.v (by first | exact Val.not_dec rfl | exact Val.not rfl) ?_)
   refine .v (.pick_true rfl rfl) (.nil ?_)
   exact .keepE (Sub.cons rfl (Sub.push rfl (Sub.push rfl (Sub.push rfl (Sub.push rfl (Sub.push rfl (Sub.push rfl (Sub.pushSame hd Sub.rfl')))))))) .en
  ·
   intro g36 hd
   refine .skip rfl rfl rfl (.skip rfl rfl rfl (.skip rfl rfl rfl (.skip rfl rfl rfl (.skip rfl rfl rfl (.v (.pick_false rfl rfl) (.nil ?_))))))
   exact .keepE (Sub.cons rfl (Sub.push rfl (Sub.push rfl (Sub.push rfl (Sub.push rfl (Sub.push rfl (Sub.push rfl (Sub.pushSame hd Sub.rfl')))))))) .en
  first | refine .boolAnd ?_ | skip
  refine .nil (TQ.then ?_)
  first | refine .cond_dec rfl (fun h2 => ?_) (fun h2 => ?_) | refine .cond rfl (fun h2 => ?_) (fun h2 => ?_)
  ·
   refine .seq (.region (.v (.build (cs := [_, _, _, _]) zeroValue224 pl_224_WWalk rfl rfl) ?_))
   refine .storeAll (us := [_, _, _, _]) sizeOf224 rfl rfl rfl rfl .up rfl ?_
   refine .v (.assign rfl) (.nil (TQ.then (.ret (.then_ret ?_))))
   exact .ret results173 (.agg isAgg224 sizeOf224 rfl .tk (by rfl) (by rfl) (.tmp rfl .nil)) (rdT M true l2 j) (by rw [placeM, if_neg h1, if_pos ⟨h2.1, fun c => h2.2 (Mem.tk_has.2 c)⟩]; rfl) rdT_le .en
  ·
   refine .skip (TQ.then (.seq (.region (.v (.loadAgg (vs := [_, _, _, _]) isAgg224 sizeOf224 rfl .tk (by rfl) (by rfl)) ?_))))
   refine .v (.move rfl) (.storeAll (us := [_, _, _, _]) sizeOf224 rfl rfl rfl rfl .up rfl ?_)
   refine .v (.assign rfl) (.nil (TQ.then (.ret ?_)))
   exact .ret results173 (.agg isAgg224 sizeOf224 rfl .tk (by rfl) (by rfl) (.tmp rfl .nil)) (rdT M true l2 j) (by rw [placeM, if_neg h1, if_neg (fun c => h2 ⟨c.1, fun d => c.2 (Mem.tk_has.1 d)⟩)]; rfl) rdT_le .en

set_option maxHeartbeats 400000 in
theorem S_walk_Walk {m : Nat} {M : Mem} {l1 : Int} {va : W} : Spec prog 158 [ptr m, i64 l1, w32 va].toArray [MemA m M] (fun x : Nat => x ≤ 2) (fun x => .tuple #[(walkM M l1 va).1.val, i64 (walkM M l1 va).2]) (fun x => [MemA m (M.tk x)]) := by
 refine Spec.body func158 rfl ntmps158 rfl (fun σ R => ?_)
 refine .seq (.region (.alloc zeroValue224 rfl rfl (fun b6 => ?_)))
 refine .v (.assign rfl) (.nil (TQ.then (.seq (.region (.v (.move rfl) (.call call159 (S_walk_Split) rfl .pk rfl (fun x15 hx15 => ?_)))))))
 refine .v (.move rfl) (.v (.extract rfl rfl) (.v (.extract rfl rfl) (.v (.extract rfl rfl) (.v (.extract rfl rfl) (.v (.assign rfl) (.v (.assign rfl) (.v (.assign rfl) (.v (.assign rfl) (.nil (TQ.then (.seq (.seq (.region (.v (.move rfl) (.v (.neq rfl rfl) (.nil (TQ.then ?_)))))))))))))))))
 first | refine .cond_dec rfl (fun h1 => ?_) (fun h1 => ?_) | refine .cond rfl (fun h1 => ?_) (fun h1 => ?_)
 ·
  refine .seq (.region (.v (.build (cs := [_, _, _, _]) zeroValue224 pl_224_WWalk rfl rfl) ?_))
  refine .v (.move rfl) (.storeAll (us := [_, _, _, _]) sizeOf224 rfl rfl rfl rfl .up rfl ?_)
  refine .v (.assign rfl) (.nil (TQ.then (.ret (.then_ret ?_))))
  exact .ret results158 (.agg isAgg224 sizeOf224 rfl .tk (by rfl) (by rfl) (.tmp rfl .nil)) 0 (by rw [walkM, if_pos h1]; rfl) (Nat.zero_le _) .en
 ·
  refine .skip (TQ.then (.seq (.region (.v (.move rfl) (.v (.move rfl) (.v (.move rfl) (.call call172 (S_walk_table) rfl .pk rfl (fun x28 hx28 => ?_))))))))
  refine .v (.move rfl) (.v (.extract rfl rfl) (.v (.extract rfl rfl) (.v (.assign rfl) (.v (.assign rfl) (.nil (TQ.then (.seq (.seq (.region (.v (.move rfl) (.v (.neq rfl rfl) (.nil (TQ.then ?_)))))))))))))
  first | refine .cond_dec rfl (fun h2 => ?_) (fun h2 => ?_) | refine .cond rfl (fun h2 => ?_) (fun h2 => ?_)
  ·
   refine .seq (.region (.v (.build (cs := [_, _, _, _]) zeroValue224 pl_224_WWalk rfl rfl) ?_))
   refine .v (.move rfl) (.storeAll (us := [_, _, _, _]) sizeOf224 rfl rfl rfl rfl .up rfl ?_)
   refine .v (.assign rfl) (.nil (TQ.then (.ret (.then_ret ?_))))
   exact .ret results158 (.agg isAgg224 sizeOf224 rfl .tk (by rfl) (by rfl) (.tmp rfl .nil)) x28 (by rw [walkM, if_neg h1, if_pos h2]; rfl) (by omega) .en
  ·
   refine .skip (TQ.then (.seq (.region (.v (.move rfl) (.v (.move rfl) (.v (.move rfl) (.call call173 (S_walk_place) rfl .pk rfl (fun x38 hx38 => ?_))))))))
   refine .v (.extract rfl rfl) (.v (.extract rfl rfl) (.storeAll (us := [_, _, _, _]) sizeOf224 rfl rfl rfl rfl .up rfl ?_))
   refine .v (.assign rfl) (.nil (TQ.then (.ret ?_)))
   exact .ret results158 (.agg isAgg224 sizeOf224 rfl .tk (by rfl) (by rfl) (.tmp rfl .nil)) (x28 + x38) (by rw [walkM, if_neg h1, if_neg h2, placeM_tk]; rfl) (by omega) (by rw [← Mem.tk_tk]; exact .en)

set_option maxHeartbeats 400000 in
theorem S_walk_Translate {m : Nat} {M : Mem} {l1 a : Int} {va : W} : Spec prog 134 [ptr m, i64 l1, w32 va, i64 a].toArray [MemA m M] (fun x : Nat => x ≤ 2) (fun x => .tuple #[.agg #[.bool (transM M l1 va a).sec, i64 (transM M l1 va a).page], i64 (transM M l1 va a).off, i64 (transM M l1 va a).err]) (fun x => [MemA m (M.tk x)]) := by
 refine Spec.body func134 rfl ntmps134 rfl (fun σ R => ?_)
 refine .seq (.region (.alloc zeroValue39 rfl rfl (fun b8 => ?_)))
 refine .v (.assign rfl) (.v (.assign rfl) (.nil (TQ.then (.seq (.region (.v (.move rfl) (.v (.move rfl) (.v (.move rfl) (.call call158 (S_walk_Walk) rfl .pk rfl (fun x21 hx21 => ?_))))))))))
 refine .v (.move rfl) (.v (.extract rfl rfl) (.v (.extract rfl rfl) (.alloc zeroValue224 rfl rfl (fun b11 => ?_))))
 refine .storeAll (us := [_, _, _, _]) sizeOf224 rfl rfl rfl rfl .up rfl ?_
 refine .v (.assign rfl) (.nil (TQ.then (.seq (.seq (.region (.v (.move rfl) (.v (.neq rfl rfl) (.nil (TQ.then ?_)))))))))
 first | refine .cond_dec rfl (fun h1 => ?_) (fun h1 => ?_) | refine .cond rfl (fun h1 => ?_) (fun h1 => ?_)
 ·
  refine .seq (.region (.v (.build (cs := [_, _]) zeroValue39 pl_39_WWalk rfl rfl) ?_))
  refine .v (.move rfl) (.storeAll (us := [_, _]) sizeOf39 rfl rfl rfl rfl .up rfl ?_)
  refine .v (.assign rfl) (.v (.assign rfl) (.nil (TQ.then (.ret (.then_ret ?_)))))
  exact .ret results134 (.agg isAgg39 sizeOf39 rfl .tk (by rfl) (by rfl) (.tmp rfl (.tmp rfl .nil))) x21 (by rw [transM, if_pos h1]; rfl) hx21 .en
 ·
  refine .skip (TQ.then (.seq (.seq (.region (.v (.move rfl) (.v (.neq rfl rfl) (.v (.move rfl) ?_)))))))
  refine' TL.andG (k := 8) (dj := 30) (d := 38) rfl ?_ ?_ ?_
  rotate_left
  ·
   intro g38 hd
   first | replace g38 := of_decide_eq_true g38 | skip
   refine .want rfl rfl (.v (.move rfl) (.want rfl rfl (.v (.neq rfl rfl) (.want rfl rfl (.v (.move rfl) ?_)))))
   refine' TL.orG (k := 4) (dj := 33) (d := 37) rfl ?_ ?_ ?_
   rotate_left
   ·
    intro g37 hd
    first | replace g37 := of_decide_eq_false g37 | skip
    refine .want rfl rfl (.v (.field fo_224_1_WWalk rfl) (.want rfl rfl (.v (.load isAgg4 rfl .tk (by rfl)) ?_)))
    refine .want rfl rfl (.v (by first | exact Val.not_dec rfl | exact Val.not rfl) ?_)
    refine .want rfl rfl (.v (.pick_false rfl rfl) (.nil ?_))
    exact .keep (Sub.cons rfl (Sub.push rfl (Sub.push rfl (Sub.push rfl (Sub.push rfl (Sub.pushSame hd Sub.rfl'))))))
   ·
    intro g37 hd
    refine .skip rfl rfl rfl (.skip rfl rfl rfl (.skip rfl rfl rfl (.want rfl rfl (.v (.pick_true rfl rfl) (.nil ?_)))))
    exact .keep (Sub.cons rfl (Sub.push rfl (Sub.push rfl (Sub.push rfl (Sub.push rfl (Sub.pushSame hd Sub.rfl'))))))
   first | refine .boolOr ?_ | skip
   refine .v (.pick_true rfl rfl) (.nil ?_)
   exact .keep (Sub.cons rfl (Sub.push rfl (Sub.push rfl (Sub.push rfl (Sub.push rfl (Sub.push rfl (Sub.pushSame hd Sub.rfl')))))))
  ·
   intro g38 hd
   refine .skip rfl rfl rfl (.skip rfl rfl rfl (.skip rfl rfl rfl (.skip_undef rfl rfl rfl (.skip_undef rfl rfl rfl (.skip_undef rfl rfl rfl (.skip rfl rfl rfl (.v (.pick_false rfl rfl) (.nil ?_))))))))
   exact .keep (Sub.cons rfl (Sub.push rfl (Sub.push rfl (Sub.push rfl (Sub.push rfl (Sub.push rfl (Sub.push rfl (Sub.push rfl (Sub.push rfl (Sub.pushSame hd Sub.rfl'))))))))))
  first | refine .boolAnd ?_ | skip
  refine .v (.move rfl) ?_
  refine' TL.andG (k := 8) (dj := 39) (d := 47) rfl ?_ ?_ ?_
  rotate_left
  ·
   intro g47 hd
   first | replace g47 := of_decide_eq_true g47 | skip
   refine .want rfl rfl (.v (.move rfl) (.want rfl rfl (.v (.neq rfl rfl) (.want rfl rfl (.v (.move rfl) ?_)))))
   refine' TL.orG (k := 4) (dj := 42) (d := 46) rfl ?_ ?_ ?_
   rotate_left
   ·
    intro g46 hd
    first | replace g46 := of_decide_eq_false g46 | skip
    refine .want rfl rfl (.v (.field fo_224_2_WWalk rfl) (.want rfl rfl (.v (.load isAgg4 rfl .tk (by rfl)) ?_)))
    refine .want rfl rfl (.v (by first | exact Val.not_dec rfl | exact Val.not rfl) ?_)
    refine .want rfl rfl (.v (.pick_false rfl rfl) (.nil ?_))
    exact .keep (Sub.cons rfl (Sub.push rfl (Sub.push rfl (Sub.push rfl (Sub.push rfl (Sub.pushSame hd Sub.rfl'))))))
   ·
    intro g46 hd
    refine .skip rfl rfl rfl (.skip rfl rfl rfl (.skip rfl rfl rfl (.want rfl rfl (.v (.pick_true rfl rfl) (.nil ?_)))))
    exact .keep (Sub.cons rfl (Sub.push rfl (Sub.push rfl (Sub.push rfl (Sub.push rfl (Sub.pushSame hd Sub.rfl'))))))
   first | refine .boolOr ?_ | skip
   refine .v (.pick_true rfl rfl) (.nil ?_)
   exact .keep (Sub.cons rfl (Sub.push rfl (Sub.push rfl (Sub.push rfl (Sub.push rfl (Sub.push rfl (Sub.pushSame hd Sub.rfl')))))))
  ·
   intro g47 hd
   refine .skip rfl rfl rfl (.skip rfl rfl rfl (.skip rfl rfl rfl (.skip_undef rfl rfl rfl (.skip_undef rfl rfl rfl (.skip_undef rfl rfl rfl (.skip rfl rfl rfl (.v (.pick_false rfl rfl) (.nil ?_))))))))
   exact .keep (Sub.cons rfl (Sub.push rfl (Sub.push rfl (Sub.push rfl (Sub.push rfl (Sub.push rfl (Sub.push rfl (Sub.push rfl (Sub.push rfl (Sub.pushSame hd Sub.rfl'))))))))))
  first | refine .boolAnd ?_ | skip
  refine .nil (TQ.then ?_)
  first | refine .cond_dec rfl (fun h2 => ?_) (fun h2 => ?_) | refine .cond rfl (fun h2 => ?_) (fun h2 => ?_)
  ·
   refine .seq (.region (.v (.build (cs := [_, _]) zeroValue39 pl_39_WWalk rfl rfl) ?_))
   refine .storeAll (us := [_, _]) sizeOf39 rfl rfl rfl rfl .up rfl ?_
   refine .v (.assign rfl) (.v (.assign rfl) (.nil (TQ.then (.ret (.then_ret ?_)))))
   exact .ret results134 (.agg isAgg39 sizeOf39 rfl .tk (by rfl) (by rfl) (.tmp rfl (.tmp rfl .nil))) x21 (by rw [transM, if_neg h1, if_neg (by unfold PMap.lets; revert h2; cases (walkM M l1 va).1.wr <;> cases (walkM M l1 va).1.ex <;> simp <;> omega)]; rfl) hx21 .en
  ·
   refine .skip (TQ.then (.seq (.region (.v (.move rfl) (.call call159 (S_walk_Split) rfl .pk rfl (fun x51 hx51 => ?_))))))
   refine .v (.move rfl) (.v (.extract rfl rfl) (.v (.extract rfl rfl) (.v (.extract rfl rfl) (.v (.extract rfl rfl) (.v (.assign rfl) (.v (.assign rfl) (.v (.assign rfl) (.v (.assign rfl) (.nil (TQ.then (.seq (.region (.v (.field fo_224_0_WWalk rfl) (.v (.loadAgg (vs := [_, _]) isAgg39 sizeOf39 rfl .tk (by rfl) (by rfl)) ?_))))))))))))))
   refine .v (.move rfl) (.storeAll (us := [_, _]) sizeOf39 rfl rfl rfl rfl .up rfl ?_)
   refine .v (.assign rfl) (.v (.assign rfl) (.nil (TQ.then (.ret ?_))))
   exact .ret results134 (.agg isAgg39 sizeOf39 rfl .tk (by rfl) (by rfl) (.tmp rfl (.tmp rfl .nil))) x21 (by rw [transM, if_neg h1, if_pos (by unfold PMap.lets; revert h2; cases (walkM M l1 va).1.wr <;> cases (walkM M l1 va).1.ex <;> simp <;> omega)]; rfl) hx21 .en
end Go.Wd
