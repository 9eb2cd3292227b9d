/- PROVED HERE: contracts of functions of the program, walked: each returns what the plain model says, for all items that its precondition names. No condition beyond each theorem's own. -/
import Derived.Test.YtkpomphooljgmaaGreatDoorProg
import Derived.Test.YtkpomphooljgmaaGreatDoorModel
import Derived.Test.YtkpomphooljgmaaGreatDoorPk
import Derived.Test.YtkpomphooljgmaaGreatDoorMSpace
import Derived.Test.YtkpomphooljgmaaGreatDoorWRef09
import Derived.Test.YtkpomphooljgmaaGreatDoorWRef12
namespace Go.Wd
open Go Go.Proofs Go.Proofs.Tryz
theorem RDbA.ptr {d m : Nat} {D : Db} {w : World} (h : Holds (RDbA d m D) w) : w.cell? ⟨d, 0, none⟩ = some (ptr m) := by
 obtain ⟨F, x, hx⟩ := h
 obtain ⟨F1, F2, hf, ⟨F3, F4, hrow, _⟩, _⟩ := hx
 rw [row_cell hrow.2]; rfl
theorem RDbA.lift {d m : Nat} {D : Db} {f : FuncId} {args : Array Value} {X : Type} {q : X → Prop} {ret : X → Value} {M' : X → Mem} (h : Spec prog f args [RMemA m D.mem] q ret (fun x => [RMemA m (M' x)])) (hM : ∀ x, (M' x).sec.length = D.mem.sec.length) :
  Spec prog f args [RDbA d m D] q ret (fun x => [RDbA d m { D with mem := M' x }]) :=
 RDbA.open fun b n cap j hn hD hc => (h.use .pk).post fun x _ => RDbA.fin (D := { D with mem := M' x }) (Db.ok.mem hD (hM x)) hn hc .pk
theorem S_REntryD {d m : Nat} {D : Db} {p : Int} : Spec prog 77 [ptr d, i64 p].toArray [RDbA d m D] (fun _ : Unit => True) (fun _ => .tuple #[(D.get p).1.val, i64 (D.get p).2]) (fun _ => [RDbA d m D]) :=
 RDbA.open fun b n cap j hn hD hc => ((S_wardenref12_DB_Entry hn (hn ▸ hD.pages.2)).use .pk).post fun _ _ => RDbA.fin hD hn hc .pk
theorem S_RPeekD {d m : Nat} {D : Db} {sec : Bool} {pg off : Int} : Spec prog 48 [ptr m, .agg #[.bool sec, i64 pg], i64 off].toArray [RDbA d m D] (fun _ : Unit => True) (fun _ => w32 (D.mem.peek sec pg off)) (fun _ => [RDbA d m D]) :=
 RDbA.lift S_wardenref07_Memory_Peek fun _ => rfl
theorem S_RReadD {d m : Nat} {D : Db} {sec : Bool} {pg off : Int} : Spec prog 114 [ptr m, .agg #[.bool sec, i64 pg], i64 off].toArray [RDbA d m D] (fun _ : Unit => True) (fun _ => .tuple #[w32 (D.mem.peek sec pg off), i64 (D.mem.errW sec pg off)]) (fun _ => [RDbA d m (D.tk (rdT D.mem sec pg off))]) :=
 RDbA.lift S_ref07_ReadT fun _ => congrArg List.length Mem.tk_sec
theorem S_RWriteD {d m : Nat} {D : Db} {pg off : Int} {v : W} : Spec prog 36 [ptr m, .agg #[.bool true, i64 pg], i64 off, w32 v].toArray [RDbA d m D] (fun _ : Unit => True) (fun _ => i64 (D.mem.write true pg off v).1) (fun _ => [RDbA d m (D.wr pg off v)]) :=
 RDbA.lift S_wardenref07_Memory_Write fun _ => Mem.write_len.1
theorem S_RHasD {d m : Nat} {D : Db} {sec : Bool} {pg : Int} : Spec prog 148 [ptr m, .agg #[.bool sec, i64 pg]].toArray [RDbA d m D] (fun _ : Unit => True) (fun _ => .bool (decide (D.mem.has sec pg))) (fun _ => [RDbA d m D]) :=
 RDbA.lift S_wardenref07_Memory_Has fun _ => rfl
theorem S_RTranslateD {d m : Nat} {D : Db} {l1 a : Int} {va : W} : Spec prog 113 [ptr m, i64 l1, w32 va, i64 a].toArray [RDbA d m D] (fun x => x ≤ 2) (fun _ => .tuple #[.agg #[.bool (transM D.mem l1 va a).sec, i64 (transM D.mem l1 va a).page], i64 (transM D.mem l1 va a).off, i64 (transM D.mem l1 va a).err]) (fun x => [RDbA d m (D.tk x)]) :=
 RDbA.lift S_wardenref09_Translate fun _ => congrArg List.length Mem.tk_sec

theorem pl_78_WRef14 : Places prog 78 [(0, 1), (1, 1)] := ⟨_, underlying78, fun w => by simp [sizeOf3, sizeOf4]⟩
set_option maxHeartbeats 400000 in
theorem S_wardenref14_secure {p : Int} : Spec prog 110 [i64 p].toArray [] (fun _ : Unit => True) (fun _ => .agg #[.bool true, i64 p]) (fun _ => []) := by
 refine Spec.body func110 rfl ntmps110 rfl (fun σ R => ?_)
 refine .seq (.region (.alloc zeroValue78 rfl rfl (fun b2 => ?_)))
 refine .nil (TQ.then (.seq (.region (.v (.move rfl) (.v (.build (cs := [_, _]) zeroValue78 pl_78_WRef14 rfl rfl) ?_)))))
 refine .storeAll (us := [_, _]) sizeOf78 rfl rfl rfl rfl .up rfl ?_
 refine .nil (TQ.then (.ret ?_))
 exact .ret results110 (.agg isAgg78 sizeOf78 rfl .tk (by rfl) (by rfl) .nil) () (by first | rfl | simp [tup, *]) trivial .en

theorem fo_104_0_WRef14 : FieldOff prog 104 0 0 := FieldOff.of 3 1 underlying104 rfl sizeOf3 rfl
theorem fo_104_1_WRef14 : FieldOff prog 104 1 1 := FieldOff.of 3 1 underlying104 rfl sizeOf3 rfl
set_option maxHeartbeats 400000 in
theorem S_wardenref14_has {d m : Nat} {D : Db} {p t sp : Int} : Spec prog 111 [ptr d, i64 p, i64 t, i64 sp].toArray [RDbA d m D] (fun _ : Unit => True) (fun _ => .bool (decide (ownsD D sp p t))) (fun _ => [RDbA d m D]) := by
 refine Spec.body func111 rfl ntmps111 rfl (fun σ R => ?_)
 refine .seq (.region (.v (.assign rfl) (.nil (TQ.then (.seq (.region (.v (.move rfl) (.v (.move rfl) (.call call77 (S_REntryD) rfl .pk rfl (fun x14 hx14 => ?_))))))))))
 refine .v (.move rfl) (.v (.extract rfl rfl) (.v (.extract rfl rfl) (.alloc zeroValue104 rfl rfl (fun b9 => ?_))))
 refine .storeAll (us := [_, _, _, _, _]) sizeOf104 rfl rfl rfl rfl .up rfl ?_
 refine .v (.assign rfl) (.nil (TQ.then (.seq (.region (.v (.move rfl) (.v (.eql rfl rfl) (.v (.move rfl) ?_)))))))
 refine' TL.andG (k := 5) (dj := 19) (d := 24) rfl ?_ ?_ ?_
 rotate_left
 ·
  intro g24 hd
  first | replace g24 := of_decide_eq_true g24 | skip
  refine .want rfl rfl (.v (.field fo_104_0_WRef14 rfl) (.want rfl rfl (.v (.load isAgg3 rfl .tk (by rfl)) ?_)))
  refine .want rfl rfl (.v (.move rfl) (.want rfl rfl (.v (.eql rfl rfl) (.v (.pick_true rfl rfl) (.nil ?_)))))
  exact .keep (Sub.cons rfl (Sub.push rfl (Sub.push rfl (Sub.push rfl (Sub.push rfl (Sub.push rfl (Sub.pushSame hd Sub.rfl')))))))
 ·
  intro g24 hd
  refine .skip rfl rfl rfl (.skip rfl rfl rfl (.skip rfl rfl rfl (.skip rfl rfl rfl (.v (.pick_false rfl rfl) (.nil ?_)))))
  exact .keep (Sub.cons rfl (Sub.push rfl (Sub.push rfl (Sub.push rfl (Sub.push rfl (Sub.push rfl (Sub.pushSame hd Sub.rfl')))))))
 first | refine .boolAnd ?_ | skip
 refine .v (.move rfl) ?_
 refine' TL.andG (k := 5) (dj := 25) (d := 30) rfl ?_ ?_ ?_
 rotate_left
 ·
  intro g30 hd
  first | replace g30 := of_decide_eq_true g30 | skip
  refine .want rfl rfl (.v (.field fo_104_1_WRef14 rfl) (.want rfl rfl (.v (.load isAgg3 rfl .tk (by rfl)) ?_)))
  refine .want rfl rfl (.v (.move rfl) (.want rfl rfl (.v (.eql rfl rfl) (.v (.pick_true rfl rfl) (.nil ?_)))))
  exact .keep (Sub.cons rfl (Sub.push rfl (Sub.push rfl (Sub.push rfl (Sub.push rfl (Sub.push rfl (Sub.pushSame hd Sub.rfl')))))))
 ·
  intro g30 hd
  refine .skip rfl rfl rfl (.skip rfl rfl rfl (.skip rfl rfl rfl (.skip rfl rfl rfl (.v (.pick_false rfl rfl) (.nil ?_)))))
  exact .keep (Sub.cons rfl (Sub.push rfl (Sub.push rfl (Sub.push rfl (Sub.push rfl (Sub.push rfl (Sub.pushSame hd Sub.rfl')))))))
 first | refine .boolAnd ?_ | skip
 refine .v (.assign rfl) (.nil (TQ.then (.ret ?_)))
 exact .ret results111 (.tmp rfl .nil) () (congrArg Value.bool (decide_eq_decide.2 owns_get.symm)) trivial .en

theorem fo_76_0_WRef14 : FieldOff prog 76 0 0 := FieldOff.of 54 1 underlying76 rfl sizeOf54 rfl
theorem fo_104_3_WRef14 : FieldOff prog 104 3 3 := FieldOff.of 3 1 underlying104 rfl sizeOf3 rfl
set_option maxHeartbeats 400000 in
theorem S_wardenref14_Table {d m : Nat} {D : Db} {sp : Int} : Spec prog 78 [ptr d, i64 sp].toArray [RDbA d m D] (fun _ : Unit => True) (fun _ => .tuple #[i64 (tableD D sp).1, i64 (tableD D sp).2]) (fun _ => [RDbA d m D]) := by
 refine Spec.body func78 rfl ntmps78 rfl (fun σ R => ?_)
 refine .seq (.region (.v (.assign rfl) (.v (.assign rfl) (.nil (TQ.then (.seq (.region (.v (.move rfl) (.v (.move rfl) (.call call77 (S_REntryD) rfl .pk rfl (fun x12 hx12 => ?_)))))))))))
 refine .v (.move rfl) (.v (.extract rfl rfl) (.v (.extract rfl rfl) (.alloc zeroValue104 rfl rfl (fun b6 => ?_))))
 refine .storeAll (us := [_, _, _, _, _]) sizeOf104 rfl rfl rfl rfl .up rfl ?_
 refine .v (.assign rfl) (.nil (TQ.then (.seq (.seq (.region (.v (.move rfl) (.v (.neq rfl rfl) (.nil (TQ.then ?_)))))))))
 first | refine .cond_dec rfl (fun h1 => ?_) (fun h1 => ?_) | refine .cond rfl (fun h1 => ?_) (fun h1 => ?_)
 ·
  refine .seq (.region (.v (.assign rfl) (.v (.assign rfl) (.nil (TQ.then (.ret (.then_ret ?_)))))))
  exact .ret results78 (.tmp rfl (.tmp rfl .nil)) () (by rw [tableD_1 h1]; rfl) trivial .en
 ·
  refine .skip (TQ.then (.seq (.seq (.region (.v (.field fo_104_0_WRef14 rfl) (.v (.load isAgg3 rfl .tk (by rfl)) ?_))))))
  refine .v (.neq rfl rfl) (.nil (TQ.then ?_))
  first | refine .cond_dec rfl (fun h2 => ?_) (fun h2 => ?_) | refine .cond rfl (fun h2 => ?_) (fun h2 => ?_)
  ·
   refine .seq (.region (.v (.assign rfl) (.v (.assign rfl) (.nil (TQ.then (.ret (.then_ret ?_)))))))
   exact .ret results78 (.tmp rfl (.tmp rfl .nil)) () (by rw [tableD_2 h1 h2]; rfl) trivial .en
  ·
   refine .skip (TQ.then (.seq (.seq (.region (.v (.field fo_104_3_WRef14 rfl) (.v (.load isAgg3 rfl .tk (by rfl)) ?_))))))
   refine .v (.eql rfl rfl) (.nil (TQ.then ?_))
   first | refine .cond_dec rfl (fun h3 => ?_) (fun h3 => ?_) | refine .cond rfl (fun h3 => ?_) (fun h3 => ?_)
   ·
    refine .seq (.region (.v (.assign rfl) (.v (.assign rfl) (.nil (TQ.then (.ret (.then_ret ?_)))))))
    exact .ret results78 (.tmp rfl (.tmp rfl .nil)) () (by rw [tableD_3 h1 h2 h3]; rfl) trivial .en
   ·
    refine .skip (TQ.then (.seq (.draw (H := [RDbA d m _]) (.q 0 (.q 1 (.q 2 (.q 3 (.q 4 (.e 5 (.e 6 (.q 7 (.q 8 .done))))))))) (by kernel_rfl) .pk (by kernel_rfl) (by kernel_rfl) (by kernel_rfl) ?_)))
    refine .v rfl (.move rfl) (.v rfl (.nilCheck rfl) (.v rfl (.field fo_76_0_WRef14 rfl) (.v rfl (.loadC isAgg54 rfl .tk (fun w hw => RDbA.ptr hw)) ?_)))
    refine .v rfl (.move rfl) (.eff rfl (fun fu_ li_ hk_ hs_ hl_ => ?_))
    refine .call call110 (S_wardenref14_secure) rfl .pk rfl (fun x28 hx28 => ?_)
    refine .nil (TS.back hk_ hs_ hl_ .pk ?_)
    refine .eff rfl (fun fu_ li_ hk_ hs_ hl_ => ?_)
    refine .call call48 (S_RPeekD) rfl .pk rfl (fun x29 hx29 => ?_)
    refine .nil (TS.back hk_ hs_ hl_ .pk ?_)
    refine .v rfl (.conv_32_64 underlying23 underlying3 rfl) ?_
    refine .v rfl (.assign rfl) (.done (TQ.then (.seq (.seq (.region (.v (.move rfl) (.v (.move rfl) (.v (.move rfl) (.call call111 (S_wardenref14_has) rfl .pk rfl (fun x34 hx34 => ?_))))))))))
    refine .v (by first | exact Val.not_dec rfl | exact Val.not rfl) ?_
    refine .nil (TQ.then ?_)
    first | refine .cond_dec rfl (fun h4 => ?_) (fun h4 => ?_) | refine .cond rfl (fun h4 => ?_) (fun h4 => ?_)
    ·
     refine .seq (.region (.v (.assign rfl) (.v (.assign rfl) (.nil (TQ.then (.ret (.then_ret ?_)))))))
     exact .ret results78 (.tmp rfl (.tmp rfl .nil)) () (by rw [tableD_4 h1 h2 h3 h4]; rfl) trivial .en
    ·
     refine .skip (TQ.then (.seq (.region (.v (.move rfl) (.v (.assign rfl) (.v (.assign rfl) (.nil (TQ.then (.ret ?_)))))))))
     exact .ret results78 (.tmp rfl (.tmp rfl .nil)) () (by rw [tableD_5 h1 h2 h3 (Classical.byContradiction h4)]; rfl) trivial .en

theorem fo_191_0_WRef14 : FieldOff prog 191 0 0 := FieldOff.of 23 1 underlying191 rfl sizeOf23 rfl
theorem fo_191_1_WRef14 : FieldOff prog 191 1 1 := FieldOff.of 4 1 underlying191 rfl sizeOf4 rfl
theorem fo_191_2_WRef14 : FieldOff prog 191 2 2 := FieldOff.of 4 1 underlying191 rfl sizeOf4 rfl
set_option maxHeartbeats 400000 in
theorem S_wardenref14_Word {x : Mp} : Spec prog 149 [x.val].toArray [] (fun _ : Unit => True) (fun _ => .tuple #[w32 (wordM x).1, i64 (wordM x).2]) (fun _ => []) := by
 refine Spec.body func149 rfl ntmps149 rfl (fun σ R => ?_)
 refine .seq (.region (.box (vs := [_, _, _]) rfl rfl rfl (fun b1 => ?_)))
 refine .v (.assign (v := w32 0#32) rfl) (.v (.assign rfl) (.nil (TQ.then (.seq (.seq (.region (.v (.field fo_191_0_WRef14 rfl) (.v (.load isAgg23 rfl .tk (by rfl)) ?_))))))))
 refine .v (.rem32 (b := 4096#32) rfl rfl (by decide)) ?_
 refine .v (.neq32 (b := 0#32) rfl rfl) ?_
 refine .v (.move rfl) ?_
 refine' TL.orG (k := 4) (dj := 9) (d := 13) rfl ?_ ?_ ?_
 rotate_left
 ·
  intro g13 hd
  first | replace g13 := of_decide_eq_false g13 | skip
  refine .want rfl rfl (.v (.field fo_191_0_WRef14 rfl) (.want rfl rfl (.v (.load isAgg23 rfl .tk (by rfl)) ?_)))
  refine .want rfl rfl (.v (.geq32 (b := 1073741824#32) rfl rfl) ?_)
  refine .v (.pick_false rfl rfl) (.nil ?_)
  exact .keep (Sub.cons rfl (Sub.push rfl (Sub.push rfl (Sub.push rfl (Sub.push rfl (Sub.pushSame hd Sub.rfl'))))))
 ·
  intro g13 hd
  refine .skip rfl rfl rfl (.skip rfl rfl rfl (.skip rfl rfl rfl (.v (.pick_true rfl rfl) (.nil ?_))))
  exact .keep (Sub.cons rfl (Sub.push rfl (Sub.push rfl (Sub.push rfl (Sub.push rfl (Sub.pushSame hd Sub.rfl'))))))
 first | refine .boolOr ?_ | skip
 refine .nil (TQ.then ?_)
 first | refine .cond_dec rfl (fun h1 => ?_) (fun h1 => ?_) | refine .cond rfl (fun h1 => ?_) (fun h1 => ?_)
 ·
  refine .seq (.region (.v (.assign (v := w32 0#32) rfl) (.v (.assign rfl) (.nil (TQ.then (.ret (.then_ret ?_)))))))
  exact .ret results149 (.tmp rfl (.tmp rfl .nil)) () (by rw [wordM, if_pos (c := mpBad x) h1]; rfl) trivial .en
 ·
  refine .skip (TQ.then (.seq (.region (.v (.field fo_191_0_WRef14 rfl) (.v (.load isAgg23 rfl .tk (by rfl)) ?_)))))
  refine .v (.add32 (b := 1#32) rfl rfl) (.v (.assign rfl) (.nil (TQ.then (.seq (.seq (.region (.v (.field fo_191_1_WRef14 rfl) (.v (.load isAgg4 rfl .tk (by rfl)) ?_))))))))
  refine .nil (TQ.then ?_)
  first | refine .cond_dec rfl (fun h2 => ?_) (fun h2 => ?_) | refine .cond rfl (fun h2 => ?_) (fun h2 => ?_)
  ·
   refine .region (.v (.move rfl) (.v (.add32 (b := 2#32) rfl rfl) (.v (.assign rfl) (.nil (TQ.then (.seq (.seq (.region (.v (.field fo_191_2_WRef14 rfl) (.v (.load isAgg4 rfl .tk (by rfl)) ?_))))))))))
   refine .nil (TQ.then ?_)
   first | refine .cond_dec rfl (fun h3 => ?_) (fun h3 => ?_) | refine .cond rfl (fun h3 => ?_) (fun h3 => ?_)
   ·
    refine .region (.v (.move rfl) (.v (.add32 (b := 4#32) rfl rfl) (.v (.assign rfl) (.nil (TQ.then (.seq (.region (.v (.move rfl) (.v (.assign rfl) (.v (.assign rfl) (.nil (TQ.then (.ret ?_)))))))))))))
    exact .ret results149 (.tmp rfl (.tmp rfl .nil)) () (by rw [wordM, if_neg (c := mpBad x) h1]; simp [h2, h3, tup]) trivial .en
   ·
    refine .skip (TQ.then (.seq (.region (.v (.move rfl) (.v (.assign rfl) (.v (.assign rfl) (.nil (TQ.then (.ret ?_)))))))))
    exact .ret results149 (.tmp rfl (.tmp rfl .nil)) () (by rw [wordM, if_neg (c := mpBad x) h1]; simp [h2, h3, tup]) trivial .en
  ·
   refine .skip (TQ.then (.seq (.seq (.region (.v (.field fo_191_2_WRef14 rfl) (.v (.load isAgg4 rfl .tk (by rfl)) ?_))))))
   refine .nil (TQ.then ?_)
   first | refine .cond_dec rfl (fun h3 => ?_) (fun h3 => ?_) | refine .cond rfl (fun h3 => ?_) (fun h3 => ?_)
   ·
    refine .region (.v (.move rfl) (.v (.add32 (b := 4#32) rfl rfl) (.v (.assign rfl) (.nil (TQ.then (.seq (.region (.v (.move rfl) (.v (.assign rfl) (.v (.assign rfl) (.nil (TQ.then (.ret ?_)))))))))))))
    exact .ret results149 (.tmp rfl (.tmp rfl .nil)) () (by rw [wordM, if_neg (c := mpBad x) h1]; simp [h2, h3, tup]) trivial .en
   ·
    refine .skip (TQ.then (.seq (.region (.v (.move rfl) (.v (.assign rfl) (.v (.assign rfl) (.nil (TQ.then (.ret ?_)))))))))
    exact .ret results149 (.tmp rfl (.tmp rfl .nil)) () (by rw [wordM, if_neg (c := mpBad x) h1]; simp [h2, h3, tup]) trivial .en

theorem pl_191_WRef14 : Places prog 191 [(0, 1), (1, 1), (2, 1)] := ⟨_, underlying191, fun w => by simp [sizeOf4, sizeOf23]⟩
set_option maxHeartbeats 400000 in
theorem S_wardenref14_Parse {w : W} : Spec prog 117 [w32 w].toArray [] (fun _ : Unit => True) (fun _ => .tuple #[(parseM w).1.val, i64 (parseM w).2]) (fun _ => []) := by
 refine Spec.body func117 rfl ntmps117 rfl (fun σ R => ?_)
 refine .seq (.region (.alloc zeroValue191 rfl rfl (fun b2 => ?_)))
 refine .v (.assign rfl) (.nil (TQ.then (.seq (.region (.v (.move rfl) (.v (.move rfl) (.v (.rem32 (b := 4096#32) rfl rfl (by decide)) ?_)))))))
 refine .v (.sub32 rfl rfl) (.v (.move rfl) (.v (.quo32 (b := 2#32) rfl rfl (by decide)) ?_))
 refine .v (.rem32 (b := 2#32) rfl rfl (by decide)) ?_
 refine .v (.eql32 (b := 1#32) rfl rfl) ?_
 refine .v (.move rfl) (.v (.quo32 (b := 4#32) rfl rfl (by decide)) ?_)
 refine .v (.rem32 (b := 2#32) rfl rfl (by decide)) ?_
 refine .v (.eql32 (b := 1#32) rfl rfl) ?_
 refine .v (.build (cs := [_, _, _]) zeroValue191 pl_191_WRef14 rfl rfl) ?_
 refine .alloc zeroValue191 rfl rfl (fun b4 => ?_)
 refine .storeAll (us := [_, _, _]) sizeOf191 rfl rfl rfl rfl .up rfl ?_
 refine .nil (TQ.then (.seq (.region (.v (.loadAgg (vs := [_, _, _]) isAgg191 sizeOf191 rfl .tk (by rfl) (by rfl)) ?_))))
 refine .call call149 (S_wardenref14_Word (x := guessM w)) rfl .pk rfl (fun x22 hx22 => ?_)
 refine .v (.move rfl) (.v (.extract rfl rfl) (.v (.extract rfl rfl) (.v (.assign rfl) (.v (.assign rfl) (.nil (TQ.then (.seq (.seq (.region (.v (.move rfl) (.v (.neq rfl rfl) (.v (.move rfl) ?_))))))))))))
 refine' TL.orG (k := 4) (dj := 27) (d := 31) rfl ?_ ?_ ?_
 rotate_left
 ·
  intro g31 hd
  first | replace g31 := of_decide_eq_false g31 | skip
  refine .want rfl rfl (.v (.move rfl) (.want rfl rfl (.v (.move rfl) (.want rfl rfl (.v (.neq32 rfl rfl) ?_)))))
  refine .v (.pick_false rfl rfl) (.nil ?_)
  exact .keep (Sub.cons rfl (Sub.push rfl (Sub.push rfl (Sub.push rfl (Sub.push rfl (Sub.pushSame hd Sub.rfl'))))))
 ·
  intro g31 hd
  refine .skip rfl rfl rfl (.skip rfl rfl rfl (.skip rfl rfl rfl (.v (.pick_true rfl rfl) (.nil ?_))))
  exact .keep (Sub.cons rfl (Sub.push rfl (Sub.push rfl (Sub.push rfl (Sub.push rfl (Sub.pushSame hd Sub.rfl'))))))
 first | refine .boolOr ?_ | skip
 refine .nil (TQ.then ?_)
 first | refine .cond_dec rfl (fun h1 => ?_) (fun h1 => ?_) | refine .cond rfl (fun h1 => ?_) (fun h1 => ?_)
 ·
  refine .seq (.region (.v (.build (cs := [_, _, _]) zeroValue191 pl_191_WRef14 rfl rfl) ?_))
  refine .storeAll (us := [_, _, _]) sizeOf191 rfl rfl rfl rfl .up rfl ?_
  refine .v (.assign rfl) (.nil (TQ.then (.ret (.then_ret ?_))))
  exact .ret results117 (.agg isAgg191 sizeOf191 rfl .tk (by rfl) (by rfl) (.tmp rfl .nil)) () (by rw [parseM, if_pos h1]; rfl) trivial .en
 ·
  refine .skip (TQ.then (.seq (.region (.v (.loadAgg (vs := [_, _, _]) isAgg191 sizeOf191 rfl .tk (by rfl) (by rfl)) ?_))))
  refine .storeAll (us := [_, _, _]) sizeOf191 rfl rfl rfl rfl .up rfl ?_
  refine .v (.assign rfl) (.nil (TQ.then (.ret ?_)))
  exact .ret results117 (.agg isAgg191 sizeOf191 rfl .tk (by rfl) (by rfl) (.tmp rfl .nil)) () (by rw [parseM, if_neg h1]; rfl) trivial .en

set_option maxHeartbeats 400000 in
theorem S_wardenref14_place {d m : Nat} {D : Db} {sp : Int} {va : W} : Spec prog 150 [ptr d, i64 sp, w32 va].toArray [RDbA d m D] (fun _ : Unit => True) (fun _ => .tuple #[i64 (findD D sp va).page, i64 (findD D sp va).j, i64 (findD D sp va).err]) (fun _ => [RDbA d m D]) := by
 refine Spec.body func150 rfl ntmps150 rfl (fun σ R => ?_)
 refine .seq (.region (.v (.assign rfl) (.v (.assign rfl) (.v (.assign rfl) (.nil (TQ.then (.seq (.region (.v (.move rfl) (.v (.move rfl) (.call call78 (S_wardenref14_Table) rfl .pk rfl (fun x18 hx18 => ?_))))))))))))
 refine .v (.move rfl) (.v (.extract rfl rfl) (.v (.extract rfl rfl) (.v (.assign rfl) (.v (.assign rfl) (.nil (TQ.then (.seq (.seq (.region (.v (.move rfl) (.v (.neq rfl rfl) (.nil (TQ.then ?_)))))))))))))
 first | refine .cond_dec rfl (fun h1 => ?_) (fun h1 => ?_) | refine .cond rfl (fun h1 => ?_) (fun h1 => ?_)
 ·
  refine .seq (.region (.v (.move rfl) (.v (.assign rfl) (.v (.assign rfl) (.v (.assign rfl) (.nil (TQ.then (.ret (.then_ret ?_)))))))))
  exact .ret results150 (.tmp rfl (.tmp rfl (.tmp rfl .nil))) () (by rw [findD_1 h1]; rfl) trivial .en
 ·
  refine .skip (TQ.then (.seq (.region (.v (.move rfl) (.call call147 (S_wardenref09_Split) rfl .pk rfl (fun x26 hx26 => ?_))))))
  refine .v (.move rfl) (.v (.extract rfl rfl) (.v (.extract rfl rfl) (.v (.extract rfl rfl) (.v (.extract rfl rfl) (.v (.assign rfl) (.v (.assign rfl) (.v (.assign rfl) (.v (.assign rfl) (.nil (TQ.then (.seq (.seq (.region (.v (.move rfl) (.v (.neq rfl rfl) (.nil (TQ.then ?_)))))))))))))))))
  first | refine .cond_dec rfl (fun h2 => ?_) (fun h2 => ?_) | refine .cond rfl (fun h2 => ?_) (fun h2 => ?_)
  ·
   refine .seq (.region (.v (.assign rfl) (.v (.assign rfl) (.v (.assign rfl) (.nil (TQ.then (.ret (.then_ret ?_))))))))
   exact .ret results150 (.tmp rfl (.tmp rfl (.tmp rfl .nil))) () (by rw [findD_2 h1 h2]; rfl) trivial .en
  ·
   refine .skip (TQ.then (.seq (.draw (H := [RDbA d m _]) (.q 0 (.q 1 (.q 2 (.q 3 (.q 4 (.q 6 (.e 5 (.e 7 (.e 8 (.q 9 (.q 10 (.q 11 (.q 12 (.q 13 .done)))))))))))))) (by kernel_rfl) .pk (by kernel_rfl) (by kernel_rfl) (by kernel_rfl) ?_)))
   refine .v rfl (.move rfl) (.v rfl (.nilCheck rfl) (.v rfl (.field fo_76_0_WRef14 rfl) (.v rfl (.loadC isAgg54 rfl .tk (fun w hw => RDbA.ptr hw)) ?_)))
   refine .v rfl (.move rfl) (.v rfl (.move rfl) (.eff rfl (fun fu_ li_ hk_ hs_ hl_ => ?_)))
   refine .call call110 (S_wardenref14_secure) rfl .pk rfl (fun x39 hx39 => ?_)
   refine .nil (TS.back hk_ hs_ hl_ .pk ?_)
   refine .eff rfl (fun fu_ li_ hk_ hs_ hl_ => ?_)
   refine .call call48 (S_RPeekD) rfl .pk rfl (fun x41 hx41 => ?_)
   refine .nil (TS.back hk_ hs_ hl_ .pk ?_)
   refine .eff rfl (fun fu_ li_ hk_ hs_ hl_ => ?_)
   refine .call call169 (S_wardenref09_ParseFirst) rfl .pk rfl (fun x42 hx42 => ?_)
   refine .nil (TS.back hk_ hs_ hl_ .pk ?_)
   refine .v rfl (.move rfl) (.v rfl (.extract rfl rfl) (.v rfl (.extract rfl rfl) (.v rfl (.assign rfl) (.v rfl (.assign rfl) (.done (TQ.then (.seq (.seq (.region (.v (.move rfl) (.v (.neq rfl rfl) (.v (.move rfl) ?_))))))))))))
   refine' TL.orG (k := 6) (dj := 47) (d := 53) rfl ?_ ?_ ?_
   rotate_left
   ·
    intro g53 hd
    first | replace g53 := of_decide_eq_false g53 | skip
    refine .want rfl rfl (.v (.move rfl) (.want rfl rfl (.v (.move rfl) (.want rfl rfl (.v (.move rfl) (.want rfl rfl (.call call111 (S_wardenref14_has) rfl .pk rfl (fun x51 hx51 => ?_))))))))
    refine .want rfl rfl (.v (by first | exact Val.not_dec rfl | exact Val.not rfl) ?_)
    refine .v (.pick_false rfl rfl) (.nil ?_)
    exact .keepE (Sub.cons rfl (Sub.push rfl (Sub.push rfl (Sub.push rfl (Sub.push rfl (Sub.push rfl (Sub.push rfl (Sub.pushSame hd Sub.rfl')))))))) .en
   ·
    intro g53 hd
    refine .skip rfl rfl rfl (.skip rfl rfl rfl (.skip rfl rfl rfl (.skip rfl rfl rfl (.skip rfl rfl rfl (.v (.pick_true rfl rfl) (.nil ?_))))))
    exact .keepE (Sub.cons rfl (Sub.push rfl (Sub.push rfl (Sub.push rfl (Sub.push rfl (Sub.push rfl (Sub.push rfl (Sub.pushSame hd Sub.rfl')))))))) .en
   first | refine .boolOr ?_ | skip
   refine .nil (TQ.then ?_)
   first | refine .cond_dec rfl (fun h3 => ?_) (fun h3 => ?_) | refine .cond rfl (fun h3 => ?_) (fun h3 => ?_)
   ·
    refine .seq (.region (.v (.assign rfl) (.v (.assign rfl) (.v (.assign rfl) (.nil (TQ.then (.ret (.then_ret ?_))))))))
    exact .ret results150 (.tmp rfl (.tmp rfl (.tmp rfl .nil))) () (by rw [findD_3 h1 h2 h3]; rfl) trivial .en
   ·
    refine .skip (TQ.then (.seq (.region (.v (.move rfl) (.v (.move rfl) (.v (.assign rfl) (.v (.assign rfl) (.v (.assign rfl) (.nil (TQ.then (.ret ?_)))))))))))
    exact .ret results150 (.tmp rfl (.tmp rfl (.tmp rfl .nil))) () (by rw [findD_4 h1 h2 h3]; rfl) trivial .en

set_option maxHeartbeats 400000 in
theorem S_wardenref14_Slot {d m : Nat} {D : Db} {sp : Int} {va : W} : Spec prog 118 [ptr d, i64 sp, w32 va].toArray [RDbA d m D] (fun _ : Unit => True) (fun _ => i64 (slotD D sp va)) (fun _ => [RDbA d m D]) := by
 refine Spec.body func118 rfl ntmps118 rfl (fun σ R => ?_)
 refine .seq (.region (.v (.assign rfl) (.nil (TQ.then (.seq (.region (.v (.move rfl) (.v (.move rfl) (.v (.move rfl) (.call call150 (S_wardenref14_place) rfl .pk rfl (fun x14 hx14 => ?_)))))))))))
 refine .v (.move rfl) (.v (.extract rfl rfl) (.v (.extract rfl rfl) (.v (.extract rfl rfl) (.v (.assign rfl) (.v (.assign rfl) (.v (.assign rfl) (.nil (TQ.then (.seq (.seq (.region (.v (.move rfl) (.v (.neq rfl rfl) (.nil (TQ.then ?_)))))))))))))))
 first | refine .cond_dec rfl (fun h1 => ?_) (fun h1 => ?_) | refine .cond rfl (fun h1 => ?_) (fun h1 => ?_)
 ·
  refine .seq (.region (.v (.move rfl) (.v (.assign rfl) (.nil (TQ.then (.ret (.then_ret ?_)))))))
  exact .ret results118 (.tmp rfl .nil) () (by rw [slotD_1 h1]; rfl) trivial .en
 ·
  refine .skip (TQ.then (.seq (.seq (.draw (H := [RDbA d m _]) (.q 0 (.q 1 (.q 2 (.q 3 (.q 4 (.q 6 (.e 5 (.e 7 (.q 8 .done))))))))) (by kernel_rfl) .pk (by kernel_rfl) (by kernel_rfl) (by kernel_rfl) ?_))))
  refine .v rfl (.move rfl) (.v rfl (.nilCheck rfl) (.v rfl (.field fo_76_0_WRef14 rfl) (.v rfl (.loadC isAgg54 rfl .tk (fun w hw => RDbA.ptr hw)) ?_)))
  refine .v rfl (.move rfl) (.v rfl (.move rfl) (.eff rfl (fun fu_ li_ hk_ hs_ hl_ => ?_)))
  refine .call call110 (S_wardenref14_secure) rfl .pk rfl (fun x26 hx26 => ?_)
  refine .nil (TS.back hk_ hs_ hl_ .pk ?_)
  refine .eff rfl (fun fu_ li_ hk_ hs_ hl_ => ?_)
  refine .call call48 (S_RPeekD) rfl .pk rfl (fun x28 hx28 => ?_)
  refine .nil (TS.back hk_ hs_ hl_ .pk ?_)
  refine .v rfl (.neq32 (b := 0#32) rfl rfl) ?_
  refine .done (TQ.then ?_)
  first | refine .cond_dec rfl (fun h2 => ?_) (fun h2 => ?_) | refine .cond rfl (fun h2 => ?_) (fun h2 => ?_)
  ·
   refine .seq (.region (.v (.assign rfl) (.nil (TQ.then (.ret (.then_ret ?_))))))
   exact .ret results118 (.tmp rfl .nil) () (by rw [slotD_2 h1 h2]; rfl) trivial .en
  ·
   refine .skip (TQ.then (.seq (.region (.v (.assign rfl) (.nil (TQ.then (.ret ?_)))))))
   exact .ret results118 (.tmp rfl .nil) () (by rw [slotD_3 h1 h2]; rfl) trivial .en

set_option maxHeartbeats 400000 in
theorem S_wardenref14_Put {d m : Nat} {D : Db} {sp : Int} {va : W} {z : PMap} : Spec prog 119 [ptr d, i64 sp, w32 va, z.val].toArray [RDbA d m D] (fun _ : Unit => True) (fun _ => i64 (putD D sp va z).1) (fun _ => [RDbA d m (putD D sp va z).2]) := by
 refine Spec.body func119 rfl ntmps119 rfl (fun σ R => ?_)
 refine .seq (.region (.box (vs := [_, _, _, _]) rfl rfl rfl (fun b7 => ?_)))
 refine .v (.assign rfl) (.nil (TQ.then (.seq (.region (.v (.move rfl) (.v (.move rfl) (.v (.move rfl) (.call call118 (S_wardenref14_Slot) rfl .pk rfl (fun x17 hx17 => ?_)))))))))
 refine .v (.assign rfl) (.nil (TQ.then (.seq (.seq (.region (.v (.move rfl) (.v (.neq rfl rfl) (.nil (TQ.then ?_)))))))))
 first | refine .cond_dec rfl (fun h1 => ?_) (fun h1 => ?_) | refine .cond rfl (fun h1 => ?_) (fun h1 => ?_)
 ·
  refine .seq (.region (.v (.move rfl) (.v (.assign rfl) (.nil (TQ.then (.ret (.then_ret ?_)))))))
  exact .ret results119 (.tmp rfl .nil) () (by rw [putD_1 h1]; rfl) trivial (by rw [putD_1 h1]; exact .en)
 ·
  refine .skip (TQ.then (.seq (.region (.v (.loadAgg (vs := [_, _, _, _]) isAgg197 sizeOf197 rfl .tk (by rfl) (by rfl)) ?_))))
  refine .call call151 (S_wardenref09_Second (x := z)) rfl .pk rfl (fun x23 hx23 => ?_)
  refine .v (.move rfl) (.v (.extract rfl rfl) (.v (.extract rfl rfl) (.v (.assign rfl) (.v (.assign rfl) (.nil (TQ.then (.seq (.seq (.region (.v (.move rfl) (.v (.neq rfl rfl) (.nil (TQ.then ?_)))))))))))))
  first | refine .cond_dec rfl (fun h2 => ?_) (fun h2 => ?_) | refine .cond rfl (fun h2 => ?_) (fun h2 => ?_)
  ·
   refine .seq (.region (.v (.move rfl) (.v (.assign rfl) (.nil (TQ.then (.ret (.then_ret ?_)))))))
   exact .ret results119 (.tmp rfl .nil) () (by rw [putD_2 h1 h2]; rfl) trivial (by rw [putD_2 h1 h2]; exact .en)
  ·
   refine .skip (TQ.then (.seq (.region (.v (.move rfl) (.v (.move rfl) (.v (.move rfl) (.call call150 (S_wardenref14_place) rfl .pk rfl (fun x33 hx33 => ?_))))))))
   refine .v (.move rfl) (.v (.extract rfl rfl) (.v (.extract rfl rfl) (.v (.extract rfl rfl) (.v (.assign rfl) (.v (.assign rfl) (.v (.assign rfl) (.nil (TQ.then (.seq (.draw (H := []) (.q 0 (.q 1 (.q 2 (.q 4 (.q 6 (.q 7 (.b 3 (.e 5 (.e 8 .done)) 5 (.e 3 (.e 8 .done))))))))) (by kernel_rfl) .pk (by kernel_rfl) (by kernel_rfl) (by kernel_rfl) ?_))))))))))
   refine .v rfl (.move rfl) (.v rfl (.nilCheck rfl) (.v rfl (.field fo_76_0_WRef14 rfl) (.v rfl (.move rfl) (.v rfl (.move rfl) (.v rfl (.move rfl) (.both rfl rfl (fun fu_ li_ hk_ hs_ hl_ => ?_) (fun fu_ li_ hk_ hs_ hl_ => ?_)))))))
   ·
    refine .v (.loadC isAgg54 rfl .tk (fun w hw => RDbA.ptr hw)) ?_
    refine .nil (TS.back hk_ hs_ hl_ .pk ?_)
    refine .eff rfl (fun fu_ li_ hk_ hs_ hl_ => ?_)
    refine .call call110 (S_wardenref14_secure) rfl .pk rfl (fun x42 hx42 => ?_)
    refine .nil (TS.back hk_ hs_ hl_ .pk ?_)
    refine .eff rfl (fun fu_ li_ hk_ hs_ hl_ => ?_)
    refine .call call36 (S_RWriteD) rfl .pk rfl (fun x45 hx45 => ?_)
    refine .nil (TS.back hk_ hs_ hl_ .pk ?_)
    refine .done (TQ.then (.seq (.region (.v (.assign rfl) (.nil (TQ.then (.ret ?_)))))))
    exact .ret results119 (.tmp rfl .nil) () (by rw [putD_3 h1 h2]; rfl) trivial (by rw [putD_3 h1 h2]; exact .en)
   ·
    refine .call call110 (S_wardenref14_secure) rfl .pk rfl (fun x42 hx42 => ?_)
    refine .nil (TS.back hk_ hs_ hl_ .pk ?_)
    refine .eff rfl (fun fu_ li_ hk_ hs_ hl_ => ?_)
    refine .v (.loadC isAgg54 rfl .tk (fun w hw => RDbA.ptr hw)) ?_
    refine .nil (TS.back hk_ hs_ hl_ .pk ?_)
    refine .eff rfl (fun fu_ li_ hk_ hs_ hl_ => ?_)
    refine .call call36 (S_RWriteD) rfl .pk rfl (fun x45 hx45 => ?_)
    refine .nil (TS.back hk_ hs_ hl_ .pk ?_)
    refine .done (TQ.then (.seq (.region (.v (.assign rfl) (.nil (TQ.then (.ret ?_)))))))
    exact .ret results119 (.tmp rfl .nil) () (by rw [putD_3 h1 h2]; rfl) trivial (by rw [putD_3 h1 h2]; exact .en)

set_option maxHeartbeats 400000 in
theorem S_wardenref14_Cut {d m : Nat} {D : Db} {sp : Int} {va : W} : Spec prog 121 [ptr d, i64 sp, w32 va].toArray [RDbA d m D] (fun _ : Unit => True) (fun _ => i64 (cutD D sp va).1) (fun _ => [RDbA d m (cutD D sp va).2]) := by
 refine Spec.body func121 rfl ntmps121 rfl (fun σ R => ?_)
 refine .seq (.region (.v (.assign rfl) (.nil (TQ.then (.seq (.region (.v (.move rfl) (.v (.move rfl) (.v (.move rfl) (.call call150 (S_wardenref14_place) rfl .pk rfl (fun x14 hx14 => ?_)))))))))))
 refine .v (.move rfl) (.v (.extract rfl rfl) (.v (.extract rfl rfl) (.v (.extract rfl rfl) (.v (.assign rfl) (.v (.assign rfl) (.v (.assign rfl) (.nil (TQ.then (.seq (.seq (.region (.v (.move rfl) (.v (.neq rfl rfl) (.nil (TQ.then ?_)))))))))))))))
 first | refine .cond_dec rfl (fun h1 => ?_) (fun h1 => ?_) | refine .cond rfl (fun h1 => ?_) (fun h1 => ?_)
 ·
  refine .seq (.region (.v (.move rfl) (.v (.assign rfl) (.nil (TQ.then (.ret (.then_ret ?_)))))))
  exact .ret results121 (.tmp rfl .nil) () (by rw [cutD_1 h1]; rfl) trivial (by rw [cutD_1 h1]; exact .en)
 ·
  refine .skip (TQ.then (.seq (.seq (.draw (H := [RDbA d m _]) (.q 0 (.q 1 (.q 2 (.q 3 (.q 4 (.q 6 (.e 5 (.e 7 (.q 8 .done))))))))) (by kernel_rfl) .pk (by kernel_rfl) (by kernel_rfl) (by kernel_rfl) ?_))))
  refine .v rfl (.move rfl) (.v rfl (.nilCheck rfl) (.v rfl (.field fo_76_0_WRef14 rfl) (.v rfl (.loadC isAgg54 rfl .tk (fun w hw => RDbA.ptr hw)) ?_)))
  refine .v rfl (.move rfl) (.v rfl (.move rfl) (.eff rfl (fun fu_ li_ hk_ hs_ hl_ => ?_)))
  refine .call call110 (S_wardenref14_secure) rfl .pk rfl (fun x26 hx26 => ?_)
  refine .nil (TS.back hk_ hs_ hl_ .pk ?_)
  refine .eff rfl (fun fu_ li_ hk_ hs_ hl_ => ?_)
  refine .call call48 (S_RPeekD) rfl .pk rfl (fun x28 hx28 => ?_)
  refine .nil (TS.back hk_ hs_ hl_ .pk ?_)
  refine .v rfl (.eql32 (b := 0#32) rfl rfl) ?_
  refine .done (TQ.then ?_)
  first | refine .cond_dec rfl (fun h2 => ?_) (fun h2 => ?_) | refine .cond rfl (fun h2 => ?_) (fun h2 => ?_)
  ·
   refine .seq (.region (.v (.assign rfl) (.nil (TQ.then (.ret (.then_ret ?_))))))
   exact .ret results121 (.tmp rfl .nil) () (by rw [cutD_2 h1 h2]; rfl) trivial (by rw [cutD_2 h1 h2]; exact .en)
  ·
   refine .skip (TQ.then (.seq (.draw (H := []) (.q 0 (.q 1 (.q 2 (.q 4 (.q 6 (.b 3 (.e 5 (.e 7 .done)) 5 (.e 3 (.e 7 .done)))))))) (by kernel_rfl) .pk (by kernel_rfl) (by kernel_rfl) (by kernel_rfl) ?_)))
   refine .v rfl (.move rfl) (.v rfl (.nilCheck rfl) (.v rfl (.field fo_76_0_WRef14 rfl) (.v rfl (.move rfl) (.v rfl (.move rfl) (.both rfl rfl (fun fu_ li_ hk_ hs_ hl_ => ?_) (fun fu_ li_ hk_ hs_ hl_ => ?_))))))
   ·
    refine .v (.loadC isAgg54 rfl .tk (fun w hw => RDbA.ptr hw)) ?_
    refine .nil (TS.back hk_ hs_ hl_ .pk ?_)
    refine .eff rfl (fun fu_ li_ hk_ hs_ hl_ => ?_)
    refine .call call110 (S_wardenref14_secure) rfl .pk rfl (fun x35 hx35 => ?_)
    refine .nil (TS.back hk_ hs_ hl_ .pk ?_)
    refine .eff rfl (fun fu_ li_ hk_ hs_ hl_ => ?_)
    refine .call call36 (S_RWriteD (v := 0#32)) rfl .pk rfl (fun x37 hx37 => ?_)
    refine .nil (TS.back hk_ hs_ hl_ .pk ?_)
    refine .done (TQ.then (.seq (.region (.v (.assign rfl) (.nil (TQ.then (.ret ?_)))))))
    exact .ret results121 (.tmp rfl .nil) () (by rw [cutD_3 h1 h2]; rfl) trivial (by rw [cutD_3 h1 h2]; exact .en)
   ·
    refine .call call110 (S_wardenref14_secure) rfl .pk rfl (fun x35 hx35 => ?_)
    refine .nil (TS.back hk_ hs_ hl_ .pk ?_)
    refine .eff rfl (fun fu_ li_ hk_ hs_ hl_ => ?_)
    refine .v (.loadC isAgg54 rfl .tk (fun w hw => RDbA.ptr hw)) ?_
    refine .nil (TS.back hk_ hs_ hl_ .pk ?_)
    refine .eff rfl (fun fu_ li_ hk_ hs_ hl_ => ?_)
    refine .call call36 (S_RWriteD (v := 0#32)) rfl .pk rfl (fun x37 hx37 => ?_)
    refine .nil (TS.back hk_ hs_ hl_ .pk ?_)
    refine .done (TQ.then (.seq (.region (.v (.assign rfl) (.nil (TQ.then (.ret ?_)))))))
    exact .ret results121 (.tmp rfl .nil) () (by rw [cutD_3 h1 h2]; rfl) trivial (by rw [cutD_3 h1 h2]; exact .en)

theorem fo_197_0_WRef14 : FieldOff prog 197 0 0 := FieldOff.of 4 1 underlying197 rfl sizeOf4 rfl
theorem fo_197_1_WRef14 : FieldOff prog 197 1 1 := FieldOff.of 3 1 underlying197 rfl sizeOf3 rfl
theorem pl_197_WRef14 : Places prog 197 [(0, 1), (1, 1), (2, 1), (3, 1)] := ⟨_, underlying197, fun w => by simp [sizeOf3, sizeOf4]⟩
set_option maxHeartbeats 400000 in
theorem S_wardenref14_At {d m : Nat} {D : Db} {sp : Int} {va : W} : Spec prog 120 [ptr d, i64 sp, w32 va].toArray [RDbA d m D] (fun _ : Unit => True) (fun _ => .tuple #[(atD D sp va).1.val, i64 (atD D sp va).2]) (fun _ => [RDbA d m D]) := by
 refine Spec.body func120 rfl ntmps120 rfl (fun σ R => ?_)
 refine .seq (.region (.alloc zeroValue197 rfl rfl (fun b6 => ?_)))
 refine .v (.assign rfl) (.nil (TQ.then (.seq (.region (.v (.move rfl) (.v (.move rfl) (.v (.move rfl) (.call call150 (S_wardenref14_place) rfl .pk rfl (fun x16 hx16 => ?_)))))))))
 refine .v (.move rfl) (.v (.extract rfl rfl) (.v (.extract rfl rfl) (.v (.extract rfl rfl) (.v (.assign rfl) (.v (.assign rfl) (.v (.assign rfl) (.nil (TQ.then (.seq (.seq (.region (.v (.move rfl) (.v (.neq rfl rfl) (.nil (TQ.then ?_)))))))))))))))
 first | refine .cond_dec rfl (fun h1 => ?_) (fun h1 => ?_) | refine .cond rfl (fun h1 => ?_) (fun h1 => ?_)
 ·
  refine .seq (.region (.v (.build (cs := [_, _, _, _]) zeroValue197 pl_197_WRef14 rfl rfl) ?_))
  refine .v (.move rfl) (.storeAll (us := [_, _, _, _]) sizeOf197 rfl rfl rfl rfl .up rfl ?_)
  refine .v (.assign rfl) (.nil (TQ.then (.ret (.then_ret ?_))))
  exact .ret results120 (.agg isAgg197 sizeOf197 rfl .tk (by rfl) (by rfl) (.tmp rfl .nil)) () (by rw [atD_1 h1]; rfl) trivial .en
 ·
  refine .skip (TQ.then (.seq (.draw (H := [RDbA d m _]) (.q 0 (.q 1 (.q 2 (.q 3 (.q 4 (.q 6 (.b 5 (.b 7 (.b 8 (.q 9 (.q 10 (.q 11 (.e 12 (.e 13 (.q 14 .done)))))) 12 (.e 8 (.q 9 (.q 10 (.q 11 (.e 13 (.q 14 .done))))))) 12 (.e 7 (.e 8 (.q 9 (.q 10 (.q 11 (.e 13 (.q 14 .done)))))))) 12 (.e 5 (.e 7 (.e 8 (.q 9 (.q 10 (.q 11 (.e 13 (.q 14 .done))))))))))))))) (by kernel_rfl) .pk (by kernel_rfl) (by kernel_rfl) (by kernel_rfl) ?_)))
  refine .v rfl (.move rfl) (.v rfl (.nilCheck rfl) (.v rfl (.field fo_76_0_WRef14 rfl) (.v rfl (.loadC isAgg54 rfl .tk (fun w hw => RDbA.ptr hw)) ?_)))
  refine .v rfl (.move rfl) (.v rfl (.move rfl) (.both rfl rfl (fun fu_ li_ hk_ hs_ hl_ => ?_) (fun fu_ li_ hk_ hs_ hl_ => ?_)))
  ·
   refine .call call110 (S_wardenref14_secure) rfl .pk rfl (fun x30 hx30 => ?_)
   refine .nil (TS.back hk_ hs_ hl_ .pk ?_)
   refine .both rfl rfl (fun fu_ li_ hk_ hs_ hl_ => ?_) (fun fu_ li_ hk_ hs_ hl_ => ?_)
   ·
    refine .call call48 (S_RPeekD) rfl .pk rfl (fun x32 hx32 => ?_)
    refine .nil (TS.back hk_ hs_ hl_ .pk ?_)
    refine .both rfl rfl (fun fu_ li_ hk_ hs_ hl_ => ?_) (fun fu_ li_ hk_ hs_ hl_ => ?_)
    ·
     refine .call call152 (S_wardenref09_ParseSecond) rfl .pk rfl (fun x33 hx33 => ?_)
     refine .nil (TS.back hk_ hs_ hl_ .pk ?_)
     refine .v rfl (.move rfl) (.v rfl (.extract rfl rfl) (.v rfl (.extract rfl rfl) (.eff rfl (fun fu_ li_ hk_ hs_ hl_ => ?_))))
     refine .alloc zeroValue197 rfl rfl (fun b11 => ?_)
     refine .nil (TS.back hk_ hs_ hl_ .pk ?_)
     refine .eff rfl (fun fu_ li_ hk_ hs_ hl_ => ?_)
     refine .storeAll (us := [_, _, _, _]) sizeOf197 rfl rfl rfl rfl .up rfl ?_
     refine .nil (TS.back hk_ hs_ hl_ .pk ?_)
     refine .v rfl (.assign rfl) (.done (TQ.then (.seq (.seq (.region (.v (.move rfl) (.v (.eql rfl rfl) (.nil (TQ.then ?_)))))))))
     first | refine .cond_dec rfl (fun h2 => ?_) (fun h2 => ?_) | refine .cond rfl (fun h2 => ?_) (fun h2 => ?_)
     ·
      refine .seq (.region (.v (.build (cs := [_, _, _, _]) zeroValue197 pl_197_WRef14 rfl rfl) ?_))
      refine .storeAll (us := [_, _, _, _]) sizeOf197 rfl rfl rfl rfl .up rfl ?_
      refine .v (.assign rfl) (.nil (TQ.then (.ret (.then_ret ?_))))
      exact .ret results120 (.agg isAgg197 sizeOf197 rfl .tk (by rfl) (by rfl) (.tmp rfl .nil)) () (by rw [atD_ok h1, mappedD_1 (w := D.pk (findD D sp va).page (findD D sp va).j) (by rw [show (parseSecond (D.pk (findD D sp va).page (findD D sp va).j)).2 = 92 from h2]; decide), show (parseSecond (D.pk (findD D sp va).page (findD D sp va).j)).2 = 92 from h2]; rfl) trivial .en
     ·
      refine .skip (TQ.then (.seq (.seq (.draw (H := [RDbA d m _, .row b11 _ _]) (.q 0 (.q 1 (.q 2 (.q 3 (.q 4 (.q 5 (.q 6 (.q 7 (.q 8 (.q 9 (.q 10 (.q 11 (.e 12 (.q 13 (.q 14 .done))))))))))))))) (by kernel_rfl) .pk (by kernel_rfl) (by kernel_rfl) (by kernel_rfl) ?_))))
      refine .v rfl (.move rfl) (.v rfl (.neq rfl rfl) (.v rfl (.move rfl) ?_))
      first | refine .part_dec (dj := 41) rfl (fun h3 => ?_) (fun h3 => ?_) | refine .part (dj := 41) rfl (fun h3 => ?_) (fun h3 => ?_)
      ·
       have h9 : (parseSecond (D.pk (findD D sp va).page (findD D sp va).j)).2 = 90 := by rcases parseSecond_errs (w := D.pk (findD D sp va).page (findD D sp va).j) with h | h | h; exact absurd h h3; exact absurd h h2; exact h
       refine .skip rfl rfl rfl rfl (.skip rfl rfl rfl rfl (.skip rfl rfl rfl rfl (.skip rfl rfl rfl rfl (.skip rfl rfl rfl rfl (.skip rfl rfl rfl rfl (.skip rfl rfl rfl rfl (.skip rfl rfl rfl rfl (.skip rfl rfl rfl rfl (.eff rfl (fun fu_ li_ hk_ hs_ hl_ => ?_))))))))))
       refine .skip rfl rfl rfl (.nil (TS.back hk_ hs_ hl_ .pk ?_))
       refine .skip rfl rfl rfl rfl (.v rfl (.pick_true rfl rfl) (.done (TQ.then (.cond_true rfl (.seq (.region (.v (.build (cs := [_, _, _, _]) zeroValue197 pl_197_WRef14 rfl rfl) ?_)))))))
       refine .storeAll (us := [_, _, _, _]) sizeOf197 rfl rfl rfl rfl .up rfl ?_
       refine .v (.assign rfl) (.nil (TQ.then (.ret (.then_ret ?_))))
       exact .ret results120 (.agg isAgg197 sizeOf197 rfl .tk (by rfl) (by rfl) (.tmp rfl .nil)) () (by rw [atD_ok h1, mappedD_1 (w := D.pk (findD D sp va).page (findD D sp va).j) h3, h9]; rfl) trivial .en
      ·
       refine .want rfl rfl rfl (.move rfl) rfl ?_
       refine .want rfl rfl rfl (.nilCheck rfl) rfl ?_
       refine .want rfl rfl rfl (.field fo_76_0_WRef14 rfl) rfl ?_
       refine .want rfl rfl rfl (.loadC isAgg54 rfl .tk (fun w hw => RDbA.ptr hw)) rfl ?_
       refine .want rfl rfl rfl (.field fo_197_0_WRef14 rfl) rfl ?_
       refine .want rfl rfl rfl (.load isAgg4 rfl .tk (by rfl)) rfl ?_
       refine .want rfl rfl rfl (.field fo_197_1_WRef14 rfl) rfl ?_
       refine .want rfl rfl rfl (.load isAgg3 rfl .tk (by rfl)) rfl ?_
       refine .want rfl rfl rfl (.build (cs := [_, _]) zeroValue78 pl_78_WRef14 rfl rfl) rfl ?_
       refine .eff rfl (fun fu_ li_ hk_ hs_ hl_ => ?_)
       refine .want rfl rfl (.call call148 (S_RHasD) rfl .pk rfl (fun x51 hx51 => ?_))
       refine .nil (TS.back hk_ hs_ hl_ .pk ?_)
       refine .want rfl rfl rfl (by first | exact Val.not_dec rfl | exact Val.not rfl) rfl ?_
       refine .v rfl (.pick_false rfl rfl) (.done (TQ.then ?_))
       first | refine .cond_dec rfl (fun h4 => ?_) (fun h4 => ?_) | refine .cond rfl (fun h4 => ?_) (fun h4 => ?_)
       ·
        refine .seq (.region (.v (.build (cs := [_, _, _, _]) zeroValue197 pl_197_WRef14 rfl rfl) ?_))
        refine .storeAll (us := [_, _, _, _]) sizeOf197 rfl rfl rfl rfl .up rfl ?_
        refine .v (.assign rfl) (.nil (TQ.then (.ret (.then_ret ?_))))
        exact .ret results120 (.agg isAgg197 sizeOf197 rfl .tk (by rfl) (by rfl) (.tmp rfl .nil)) () (by rw [atD_ok h1, mappedD_2 (w := D.pk (findD D sp va).page (findD D sp va).j) h3 h4]; rfl) trivial .en
       ·
        refine .skip (TQ.then (.seq (.region (.v (.loadAgg (vs := [_, _, _, _]) isAgg197 sizeOf197 rfl .tk (by rfl) (by rfl)) ?_))))
        refine .storeAll (us := [_, _, _, _]) sizeOf197 rfl rfl rfl rfl .up rfl ?_
        refine .v (.assign rfl) (.nil (TQ.then (.ret ?_)))
        exact .ret results120 (.agg isAgg197 sizeOf197 rfl .tk (by rfl) (by rfl) (.tmp rfl .nil)) () (by rw [atD_ok h1, mappedD_3 (w := D.pk (findD D sp va).page (findD D sp va).j) h3 (Classical.byContradiction h4)]; rfl) trivial .en
    ·
     refine .alloc zeroValue197 rfl rfl (fun b11 => ?_)
     refine .nil (TS.back hk_ hs_ hl_ .pk ?_)
     refine .eff rfl (fun fu_ li_ hk_ hs_ hl_ => ?_)
     refine .call call152 (S_wardenref09_ParseSecond) rfl .pk rfl (fun x33 hx33 => ?_)
     refine .nil (TS.back hk_ hs_ hl_ .pk ?_)
     refine .v rfl (.move rfl) (.v rfl (.extract rfl rfl) (.v rfl (.extract rfl rfl) (.eff rfl (fun fu_ li_ hk_ hs_ hl_ => ?_))))
     refine .storeAll (us := [_, _, _, _]) sizeOf197 rfl rfl rfl rfl .up rfl ?_
     refine .nil (TS.back hk_ hs_ hl_ .pk ?_)
     refine .v rfl (.assign rfl) (.done (TQ.then (.seq (.seq (.region (.v (.move rfl) (.v (.eql rfl rfl) (.nil (TQ.then ?_)))))))))
     first | refine .cond_dec rfl (fun h2 => ?_) (fun h2 => ?_) | refine .cond rfl (fun h2 => ?_) (fun h2 => ?_)
     ·
      refine .seq (.region (.v (.build (cs := [_, _, _, _]) zeroValue197 pl_197_WRef14 rfl rfl) ?_))
      refine .storeAll (us := [_, _, _, _]) sizeOf197 rfl rfl rfl rfl .up rfl ?_
      refine .v (.assign rfl) (.nil (TQ.then (.ret (.then_ret ?_))))
      exact .ret results120 (.agg isAgg197 sizeOf197 rfl .tk (by rfl) (by rfl) (.tmp rfl .nil)) () (by rw [atD_ok h1, mappedD_1 (w := D.pk (findD D sp va).page (findD D sp va).j) (by rw [show (parseSecond (D.pk (findD D sp va).page (findD D sp va).j)).2 = 92 from h2]; decide), show (parseSecond (D.pk (findD D sp va).page (findD D sp va).j)).2 = 92 from h2]; rfl) trivial .en
     ·
      refine .skip (TQ.then (.seq (.seq (.draw (H := [RDbA d m _, .row b11 _ _]) (.q 0 (.q 1 (.q 2 (.q 3 (.q 4 (.q 5 (.q 6 (.q 7 (.q 8 (.q 9 (.q 10 (.q 11 (.e 12 (.q 13 (.q 14 .done))))))))))))))) (by kernel_rfl) .pk (by kernel_rfl) (by kernel_rfl) (by kernel_rfl) ?_))))
      refine .v rfl (.move rfl) (.v rfl (.neq rfl rfl) (.v rfl (.move rfl) ?_))
      first | refine .part_dec (dj := 41) rfl (fun h3 => ?_) (fun h3 => ?_) | refine .part (dj := 41) rfl (fun h3 => ?_) (fun h3 => ?_)
      ·
       have h9 : (parseSecond (D.pk (findD D sp va).page (findD D sp va).j)).2 = 90 := by rcases parseSecond_errs (w := D.pk (findD D sp va).page (findD D sp va).j) with h | h | h; exact absurd h h3; exact absurd h h2; exact h
       refine .skip rfl rfl rfl rfl (.skip rfl rfl rfl rfl (.skip rfl rfl rfl rfl (.skip rfl rfl rfl rfl (.skip rfl rfl rfl rfl (.skip rfl rfl rfl rfl (.skip rfl rfl rfl rfl (.skip rfl rfl rfl rfl (.skip rfl rfl rfl rfl (.eff rfl (fun fu_ li_ hk_ hs_ hl_ => ?_))))))))))
       refine .skip rfl rfl rfl (.nil (TS.back hk_ hs_ hl_ .pk ?_))
       refine .skip rfl rfl rfl rfl (.v rfl (.pick_true rfl rfl) (.done (TQ.then (.cond_true rfl (.seq (.region (.v (.build (cs := [_, _, _, _]) zeroValue197 pl_197_WRef14 rfl rfl) ?_)))))))
       refine .storeAll (us := [_, _, _, _]) sizeOf197 rfl rfl rfl rfl .up rfl ?_
       refine .v (.assign rfl) (.nil (TQ.then (.ret (.then_ret ?_))))
       exact .ret results120 (.agg isAgg197 sizeOf197 rfl .tk (by rfl) (by rfl) (.tmp rfl .nil)) () (by rw [atD_ok h1, mappedD_1 (w := D.pk (findD D sp va).page (findD D sp va).j) h3, h9]; rfl) trivial .en
      ·
       refine .want rfl rfl rfl (.move rfl) rfl ?_
       refine .want rfl rfl rfl (.nilCheck rfl) rfl ?_
       refine .want rfl rfl rfl (.field fo_76_0_WRef14 rfl) rfl ?_
       refine .want rfl rfl rfl (.loadC isAgg54 rfl .tk (fun w hw => RDbA.ptr hw)) rfl ?_
       refine .want rfl rfl rfl (.field fo_197_0_WRef14 rfl) rfl ?_
       refine .want rfl rfl rfl (.load isAgg4 rfl .tk (by rfl)) rfl ?_
       refine .want rfl rfl rfl (.field fo_197_1_WRef14 rfl) rfl ?_
       refine .want rfl rfl rfl (.load isAgg3 rfl .tk (by rfl)) rfl ?_
       refine .want rfl rfl rfl (.build (cs := [_, _]) zeroValue78 pl_78_WRef14 rfl rfl) rfl ?_
       refine .eff rfl (fun fu_ li_ hk_ hs_ hl_ => ?_)
       refine .want rfl rfl (.call call148 (S_RHasD) rfl .pk rfl (fun x51 hx51 => ?_))
       refine .nil (TS.back hk_ hs_ hl_ .pk ?_)
       refine .want rfl rfl rfl (by first | exact Val.not_dec rfl | exact Val.not rfl) rfl ?_
       refine .v rfl (.pick_false rfl rfl) (.done (TQ.then ?_))
       first | refine .cond_dec rfl (fun h4 => ?_) (fun h4 => ?_) | refine .cond rfl (fun h4 => ?_) (fun h4 => ?_)
       ·
        refine .seq (.region (.v (.build (cs := [_, _, _, _]) zeroValue197 pl_197_WRef14 rfl rfl) ?_))
        refine .storeAll (us := [_, _, _, _]) sizeOf197 rfl rfl rfl rfl .up rfl ?_
        refine .v (.assign rfl) (.nil (TQ.then (.ret (.then_ret ?_))))
        exact .ret results120 (.agg isAgg197 sizeOf197 rfl .tk (by rfl) (by rfl) (.tmp rfl .nil)) () (by rw [atD_ok h1, mappedD_2 (w := D.pk (findD D sp va).page (findD D sp va).j) h3 h4]; rfl) trivial .en
       ·
        refine .skip (TQ.then (.seq (.region (.v (.loadAgg (vs := [_, _, _, _]) isAgg197 sizeOf197 rfl .tk (by rfl) (by rfl)) ?_))))
        refine .storeAll (us := [_, _, _, _]) sizeOf197 rfl rfl rfl rfl .up rfl ?_
        refine .v (.assign rfl) (.nil (TQ.then (.ret ?_)))
        exact .ret results120 (.agg isAgg197 sizeOf197 rfl .tk (by rfl) (by rfl) (.tmp rfl .nil)) () (by rw [atD_ok h1, mappedD_3 (w := D.pk (findD D sp va).page (findD D sp va).j) h3 (Classical.byContradiction h4)]; rfl) trivial .en
   ·
    refine .alloc zeroValue197 rfl rfl (fun b11 => ?_)
    refine .nil (TS.back hk_ hs_ hl_ .pk ?_)
    refine .eff rfl (fun fu_ li_ hk_ hs_ hl_ => ?_)
    refine .call call48 (S_RPeekD) rfl .pk rfl (fun x32 hx32 => ?_)
    refine .nil (TS.back hk_ hs_ hl_ .pk ?_)
    refine .eff rfl (fun fu_ li_ hk_ hs_ hl_ => ?_)
    refine .call call152 (S_wardenref09_ParseSecond) rfl .pk rfl (fun x33 hx33 => ?_)
    refine .nil (TS.back hk_ hs_ hl_ .pk ?_)
    refine .v rfl (.move rfl) (.v rfl (.extract rfl rfl) (.v rfl (.extract rfl rfl) (.eff rfl (fun fu_ li_ hk_ hs_ hl_ => ?_))))
    refine .storeAll (us := [_, _, _, _]) sizeOf197 rfl rfl rfl rfl .up rfl ?_
    refine .nil (TS.back hk_ hs_ hl_ .pk ?_)
    refine .v rfl (.assign rfl) (.done (TQ.then (.seq (.seq (.region (.v (.move rfl) (.v (.eql rfl rfl) (.nil (TQ.then ?_)))))))))
    first | refine .cond_dec rfl (fun h2 => ?_) (fun h2 => ?_) | refine .cond rfl (fun h2 => ?_) (fun h2 => ?_)
    ·
     refine .seq (.region (.v (.build (cs := [_, _, _, _]) zeroValue197 pl_197_WRef14 rfl rfl) ?_))
     refine .storeAll (us := [_, _, _, _]) sizeOf197 rfl rfl rfl rfl .up rfl ?_
     refine .v (.assign rfl) (.nil (TQ.then (.ret (.then_ret ?_))))
     exact .ret results120 (.agg isAgg197 sizeOf197 rfl .tk (by rfl) (by rfl) (.tmp rfl .nil)) () (by rw [atD_ok h1, mappedD_1 (w := D.pk (findD D sp va).page (findD D sp va).j) (by rw [show (parseSecond (D.pk (findD D sp va).page (findD D sp va).j)).2 = 92 from h2]; decide), show (parseSecond (D.pk (findD D sp va).page (findD D sp va).j)).2 = 92 from h2]; rfl) trivial .en
    ·
     refine .skip (TQ.then (.seq (.seq (.draw (H := [RDbA d m _, .row b11 _ _]) (.q 0 (.q 1 (.q 2 (.q 3 (.q 4 (.q 5 (.q 6 (.q 7 (.q 8 (.q 9 (.q 10 (.q 11 (.e 12 (.q 13 (.q 14 .done))))))))))))))) (by kernel_rfl) .pk (by kernel_rfl) (by kernel_rfl) (by kernel_rfl) ?_))))
     refine .v rfl (.move rfl) (.v rfl (.neq rfl rfl) (.v rfl (.move rfl) ?_))
     first | refine .part_dec (dj := 41) rfl (fun h3 => ?_) (fun h3 => ?_) | refine .part (dj := 41) rfl (fun h3 => ?_) (fun h3 => ?_)
     ·
      have h9 : (parseSecond (D.pk (findD D sp va).page (findD D sp va).j)).2 = 90 := by rcases parseSecond_errs (w := D.pk (findD D sp va).page (findD D sp va).j) with h | h | h; exact absurd h h3; exact absurd h h2; exact h
      refine .skip rfl rfl rfl rfl (.skip rfl rfl rfl rfl (.skip rfl rfl rfl rfl (.skip rfl rfl rfl rfl (.skip rfl rfl rfl rfl (.skip rfl rfl rfl rfl (.skip rfl rfl rfl rfl (.skip rfl rfl rfl rfl (.skip rfl rfl rfl rfl (.eff rfl (fun fu_ li_ hk_ hs_ hl_ => ?_))))))))))
      refine .skip rfl rfl rfl (.nil (TS.back hk_ hs_ hl_ .pk ?_))
      refine .skip rfl rfl rfl rfl (.v rfl (.pick_true rfl rfl) (.done (TQ.then (.cond_true rfl (.seq (.region (.v (.build (cs := [_, _, _, _]) zeroValue197 pl_197_WRef14 rfl rfl) ?_)))))))
      refine .storeAll (us := [_, _, _, _]) sizeOf197 rfl rfl rfl rfl .up rfl ?_
      refine .v (.assign rfl) (.nil (TQ.then (.ret (.then_ret ?_))))
      exact .ret results120 (.agg isAgg197 sizeOf197 rfl .tk (by rfl) (by rfl) (.tmp rfl .nil)) () (by rw [atD_ok h1, mappedD_1 (w := D.pk (findD D sp va).page (findD D sp va).j) h3, h9]; rfl) trivial .en
     ·
      refine .want rfl rfl rfl (.move rfl) rfl ?_
      refine .want rfl rfl rfl (.nilCheck rfl) rfl ?_
      refine .want rfl rfl rfl (.field fo_76_0_WRef14 rfl) rfl ?_
      refine .want rfl rfl rfl (.loadC isAgg54 rfl .tk (fun w hw => RDbA.ptr hw)) rfl ?_
      refine .want rfl rfl rfl (.field fo_197_0_WRef14 rfl) rfl ?_
      refine .want rfl rfl rfl (.load isAgg4 rfl .tk (by rfl)) rfl ?_
      refine .want rfl rfl rfl (.field fo_197_1_WRef14 rfl) rfl ?_
      refine .want rfl rfl rfl (.load isAgg3 rfl .tk (by rfl)) rfl ?_
      refine .want rfl rfl rfl (.build (cs := [_, _]) zeroValue78 pl_78_WRef14 rfl rfl) rfl ?_
      refine .eff rfl (fun fu_ li_ hk_ hs_ hl_ => ?_)
      refine .want rfl rfl (.call call148 (S_RHasD) rfl .pk rfl (fun x51 hx51 => ?_))
      refine .nil (TS.back hk_ hs_ hl_ .pk ?_)
      refine .want rfl rfl rfl (by first | exact Val.not_dec rfl | exact Val.not rfl) rfl ?_
      refine .v rfl (.pick_false rfl rfl) (.done (TQ.then ?_))
      first | refine .cond_dec rfl (fun h4 => ?_) (fun h4 => ?_) | refine .cond rfl (fun h4 => ?_) (fun h4 => ?_)
      ·
       refine .seq (.region (.v (.build (cs := [_, _, _, _]) zeroValue197 pl_197_WRef14 rfl rfl) ?_))
       refine .storeAll (us := [_, _, _, _]) sizeOf197 rfl rfl rfl rfl .up rfl ?_
       refine .v (.assign rfl) (.nil (TQ.then (.ret (.then_ret ?_))))
       exact .ret results120 (.agg isAgg197 sizeOf197 rfl .tk (by rfl) (by rfl) (.tmp rfl .nil)) () (by rw [atD_ok h1, mappedD_2 (w := D.pk (findD D sp va).page (findD D sp va).j) h3 h4]; rfl) trivial .en
      ·
       refine .skip (TQ.then (.seq (.region (.v (.loadAgg (vs := [_, _, _, _]) isAgg197 sizeOf197 rfl .tk (by rfl) (by rfl)) ?_))))
       refine .storeAll (us := [_, _, _, _]) sizeOf197 rfl rfl rfl rfl .up rfl ?_
       refine .v (.assign rfl) (.nil (TQ.then (.ret ?_)))
       exact .ret results120 (.agg isAgg197 sizeOf197 rfl .tk (by rfl) (by rfl) (.tmp rfl .nil)) () (by rw [atD_ok h1, mappedD_3 (w := D.pk (findD D sp va).page (findD D sp va).j) h3 (Classical.byContradiction h4)]; rfl) trivial .en
  ·
   refine .alloc zeroValue197 rfl rfl (fun b11 => ?_)
   refine .nil (TS.back hk_ hs_ hl_ .pk ?_)
   refine .eff rfl (fun fu_ li_ hk_ hs_ hl_ => ?_)
   refine .call call110 (S_wardenref14_secure) rfl .pk rfl (fun x30 hx30 => ?_)
   refine .nil (TS.back hk_ hs_ hl_ .pk ?_)
   refine .eff rfl (fun fu_ li_ hk_ hs_ hl_ => ?_)
   refine .call call48 (S_RPeekD) rfl .pk rfl (fun x32 hx32 => ?_)
   refine .nil (TS.back hk_ hs_ hl_ .pk ?_)
   refine .eff rfl (fun fu_ li_ hk_ hs_ hl_ => ?_)
   refine .call call152 (S_wardenref09_ParseSecond) rfl .pk rfl (fun x33 hx33 => ?_)
   refine .nil (TS.back hk_ hs_ hl_ .pk ?_)
   refine .v rfl (.move rfl) (.v rfl (.extract rfl rfl) (.v rfl (.extract rfl rfl) (.eff rfl (fun fu_ li_ hk_ hs_ hl_ => ?_))))
   refine .storeAll (us := [_, _, _, _]) sizeOf197 rfl rfl rfl rfl .up rfl ?_
   refine .nil (TS.back hk_ hs_ hl_ .pk ?_)
   refine .v rfl (.assign rfl) (.done (TQ.then (.seq (.seq (.region (.v (.move rfl) (.v (.eql rfl rfl) (.nil (TQ.then ?_)))))))))
   first | refine .cond_dec rfl (fun h2 => ?_) (fun h2 => ?_) | refine .cond rfl (fun h2 => ?_) (fun h2 => ?_)
   ·
    refine .seq (.region (.v (.build (cs := [_, _, _, _]) zeroValue197 pl_197_WRef14 rfl rfl) ?_))
    refine .storeAll (us := [_, _, _, _]) sizeOf197 rfl rfl rfl rfl .up rfl ?_
    refine .v (.assign rfl) (.nil (TQ.then (.ret (.then_ret ?_))))
    exact .ret results120 (.agg isAgg197 sizeOf197 rfl .tk (by rfl) (by rfl) (.tmp rfl .nil)) () (by rw [atD_ok h1, mappedD_1 (w := D.pk (findD D sp va).page (findD D sp va).j) (by rw [show (parseSecond (D.pk (findD D sp va).page (findD D sp va).j)).2 = 92 from h2]; decide), show (parseSecond (D.pk (findD D sp va).page (findD D sp va).j)).2 = 92 from h2]; rfl) trivial .en
   ·
    refine .skip (TQ.then (.seq (.seq (.draw (H := [RDbA d m _, .row b11 _ _]) (.q 0 (.q 1 (.q 2 (.q 3 (.q 4 (.q 5 (.q 6 (.q 7 (.q 8 (.q 9 (.q 10 (.q 11 (.e 12 (.q 13 (.q 14 .done))))))))))))))) (by kernel_rfl) .pk (by kernel_rfl) (by kernel_rfl) (by kernel_rfl) ?_))))
    refine .v rfl (.move rfl) (.v rfl (.neq rfl rfl) (.v rfl (.move rfl) ?_))
    first | refine .part_dec (dj := 41) rfl (fun h3 => ?_) (fun h3 => ?_) | refine .part (dj := 41) rfl (fun h3 => ?_) (fun h3 => ?_)
    ·
     have h9 : (parseSecond (D.pk (findD D sp va).page (findD D sp va).j)).2 = 90 := by rcases parseSecond_errs (w := D.pk (findD D sp va).page (findD D sp va).j) with h | h | h; exact absurd h h3; exact absurd h h2; exact h
     refine .skip rfl rfl rfl rfl (.skip rfl rfl rfl rfl (.skip rfl rfl rfl rfl (.skip rfl rfl rfl rfl (.skip rfl rfl rfl rfl (.skip rfl rfl rfl rfl (.skip rfl rfl rfl rfl (.skip rfl rfl rfl rfl (.skip rfl rfl rfl rfl (.eff rfl (fun fu_ li_ hk_ hs_ hl_ => ?_))))))))))
     refine .skip rfl rfl rfl (.nil (TS.back hk_ hs_ hl_ .pk ?_))
     refine .skip rfl rfl rfl rfl (.v rfl (.pick_true rfl rfl) (.done (TQ.then (.cond_true rfl (.seq (.region (.v (.build (cs := [_, _, _, _]) zeroValue197 pl_197_WRef14 rfl rfl) ?_)))))))
     refine .storeAll (us := [_, _, _, _]) sizeOf197 rfl rfl rfl rfl .up rfl ?_
     refine .v (.assign rfl) (.nil (TQ.then (.ret (.then_ret ?_))))
     exact .ret results120 (.agg isAgg197 sizeOf197 rfl .tk (by rfl) (by rfl) (.tmp rfl .nil)) () (by rw [atD_ok h1, mappedD_1 (w := D.pk (findD D sp va).page (findD D sp va).j) h3, h9]; rfl) trivial .en
    ·
     refine .want rfl rfl rfl (.move rfl) rfl ?_
     refine .want rfl rfl rfl (.nilCheck rfl) rfl ?_
     refine .want rfl rfl rfl (.field fo_76_0_WRef14 rfl) rfl ?_
     refine .want rfl rfl rfl (.loadC isAgg54 rfl .tk (fun w hw => RDbA.ptr hw)) rfl ?_
     refine .want rfl rfl rfl (.field fo_197_0_WRef14 rfl) rfl ?_
     refine .want rfl rfl rfl (.load isAgg4 rfl .tk (by rfl)) rfl ?_
     refine .want rfl rfl rfl (.field fo_197_1_WRef14 rfl) rfl ?_
     refine .want rfl rfl rfl (.load isAgg3 rfl .tk (by rfl)) rfl ?_
     refine .want rfl rfl rfl (.build (cs := [_, _]) zeroValue78 pl_78_WRef14 rfl rfl) rfl ?_
     refine .eff rfl (fun fu_ li_ hk_ hs_ hl_ => ?_)
     refine .want rfl rfl (.call call148 (S_RHasD) rfl .pk rfl (fun x51 hx51 => ?_))
     refine .nil (TS.back hk_ hs_ hl_ .pk ?_)
     refine .want rfl rfl rfl (by first | exact Val.not_dec rfl | exact Val.not rfl) rfl ?_
     refine .v rfl (.pick_false rfl rfl) (.done (TQ.then ?_))
     first | refine .cond_dec rfl (fun h4 => ?_) (fun h4 => ?_) | refine .cond rfl (fun h4 => ?_) (fun h4 => ?_)
     ·
      refine .seq (.region (.v (.build (cs := [_, _, _, _]) zeroValue197 pl_197_WRef14 rfl rfl) ?_))
      refine .storeAll (us := [_, _, _, _]) sizeOf197 rfl rfl rfl rfl .up rfl ?_
      refine .v (.assign rfl) (.nil (TQ.then (.ret (.then_ret ?_))))
      exact .ret results120 (.agg isAgg197 sizeOf197 rfl .tk (by rfl) (by rfl) (.tmp rfl .nil)) () (by rw [atD_ok h1, mappedD_2 (w := D.pk (findD D sp va).page (findD D sp va).j) h3 h4]; rfl) trivial .en
     ·
      refine .skip (TQ.then (.seq (.region (.v (.loadAgg (vs := [_, _, _, _]) isAgg197 sizeOf197 rfl .tk (by rfl) (by rfl)) ?_))))
      refine .storeAll (us := [_, _, _, _]) sizeOf197 rfl rfl rfl rfl .up rfl ?_
      refine .v (.assign rfl) (.nil (TQ.then (.ret ?_)))
      exact .ret results120 (.agg isAgg197 sizeOf197 rfl .tk (by rfl) (by rfl) (.tmp rfl .nil)) () (by rw [atD_ok h1, mappedD_3 (w := D.pk (findD D sp va).page (findD D sp va).j) h3 (Classical.byContradiction h4)]; rfl) trivial .en

theorem fo_76_1_WRef14 : FieldOff prog 76 1 1 := FieldOff.of 74 1 underlying76 rfl sizeOf74 rfl
set_option maxHeartbeats 400000 in
theorem S_wardenref12_DB_Pages {d m b n cap : Nat} {births : Int} : Spec prog 153 [ptr d].toArray [.row d [ptr m, .slice (some ⟨b, 0, none⟩) n cap, i64 births] 76] (fun _ : Unit => True) (fun _ => i64 n) (fun _ => [.row d [ptr m, .slice (some ⟨b, 0, none⟩) n cap, i64 births] 76]) := by
 refine Spec.body func153 rfl ntmps153 rfl (fun σ R => ?_)
 refine .seq (.region (.v (.assign rfl) (.nil (TQ.then (.seq (.region (.v (.move rfl) (.v (.nilCheck rfl) (.v (.field fo_76_1_WRef14 rfl) (.v (.load isAgg74 rfl .tk (by rfl)) ?_))))))))))
 refine .v (.len underlying74 rfl) ?_
 refine .v (.assign rfl) (.nil (TQ.then (.ret ?_)))
 exact .ret results153 (.tmp rfl .nil) () (by first | rfl | simp [tup, *]) trivial .en

theorem S_RPagesD {d m : Nat} {D : Db} : Spec prog 153 [ptr d].toArray [RDbA d m D] (fun _ : Unit => True) (fun _ => i64 D.ents.length) (fun _ => [RDbA d m D]) :=
 RDbA.open fun b n cap j hn hD hc => by
  subst hn
  exact ((S_wardenref12_DB_Pages).use .pk).post fun _ _ => RDbA.fin hD rfl hc .pk

set_option maxHeartbeats 400000 in
theorem S_wardenref14_AddTable {d m : Nat} {D : Db} {sp ix l2 : Int} : Spec prog 123 [ptr d, i64 sp, i64 ix, i64 l2].toArray [RDbA d m D] (fun _ : Unit => True) (fun _ => i64 (addTableD D sp ix l2).1) (fun _ => [RDbA d m (addTableD D sp ix l2).2]) := by
 refine Spec.body func123 rfl ntmps123 rfl (fun σ R => ?_)
 refine .seq (.region (.v (.assign rfl) (.nil (TQ.then (.seq (.region (.v (.move rfl) (.v (.move rfl) (.call call78 (S_wardenref14_Table) rfl .pk rfl (fun x16 hx16 => ?_))))))))))
 refine .v (.move rfl) (.v (.extract rfl rfl) (.v (.extract rfl rfl) (.v (.assign rfl) (.v (.assign rfl) (.nil (TQ.then (.seq (.seq (.region (.v (.move rfl) (.v (.neq rfl rfl) (.nil (TQ.then ?_)))))))))))))
 first | refine .cond_dec rfl (fun h1 => ?_) (fun h1 => ?_) | refine .cond rfl (fun h1 => ?_) (fun h1 => ?_)
 ·
  refine .seq (.region (.v (.move rfl) (.v (.assign rfl) (.nil (TQ.then (.ret (.then_ret ?_)))))))
  exact .ret results123 (.tmp rfl .nil) () (by rw [addT_1 h1]; rfl) trivial (by rw [addT_1 h1]; exact .en)
 ·
  refine .skip (TQ.then (.seq (.seq (.region (.v (.move rfl) (.v (.lss rfl rfl) (.v (.move rfl) ?_)))))))
  refine' TL.orG (k := 3) (dj := 24) (d := 27) rfl ?_ ?_ ?_
  rotate_left
  ·
   intro g27 hd
   first | replace g27 := of_decide_eq_false g27 | skip
   refine .want rfl rfl (.v (.move rfl) (.want rfl rfl (.v (.gtr rfl rfl) (.v (.pick_false rfl rfl) (.nil ?_)))))
   exact .keep (Sub.cons rfl (Sub.push rfl (Sub.push rfl (Sub.push rfl (Sub.pushSame hd Sub.rfl')))))
  ·
   intro g27 hd
   refine .skip rfl rfl rfl (.skip rfl rfl rfl (.v (.pick_true rfl rfl) (.nil ?_)))
   exact .keep (Sub.cons rfl (Sub.push rfl (Sub.push rfl (Sub.push rfl (Sub.pushSame hd Sub.rfl')))))
  first | refine .boolOr ?_ | skip
  refine .nil (TQ.then ?_)
  first | refine .cond_dec rfl (fun h2 => ?_) (fun h2 => ?_) | refine .cond rfl (fun h2 => ?_) (fun h2 => ?_)
  ·
   have hix : ¬ (0 ≤ ix ∧ ix < 256) := by omega
   refine .seq (.region (.v (.assign rfl) (.nil (TQ.then (.ret (.then_ret ?_))))))
   exact .ret results123 (.tmp rfl .nil) () (by rw [addT_2 h1 hix]; rfl) trivial (by rw [addT_2 h1 hix]; exact .en)
  ·
   have hix : 0 ≤ ix ∧ ix < 256 := by omega
   refine .skip (TQ.then (.seq (.seq (.region (.v (.move rfl) (.v (.lss rfl rfl) (.v (.move rfl) ?_)))))))
   refine' TL.orG (k := 5) (dj := 30) (d := 35) rfl ?_ ?_ ?_
   rotate_left
   ·
    intro g35 hd
    first | replace g35 := of_decide_eq_false g35 | skip
    refine .want rfl rfl (.v (.move rfl) (.want rfl rfl (.v (.move rfl) (.want rfl rfl (.call call153 (S_RPagesD) rfl .pk rfl (fun x33 hx33 => ?_))))))
    refine .want rfl rfl (.v (.geq rfl rfl) (.v (.pick_false rfl rfl) (.nil ?_)))
    exact .keepE (Sub.cons rfl (Sub.push rfl (Sub.push rfl (Sub.push rfl (Sub.push rfl (Sub.push rfl (Sub.pushSame hd Sub.rfl'))))))) .en
   ·
    intro g35 hd
    refine .skip rfl rfl rfl (.skip rfl rfl rfl (.skip rfl rfl rfl (.skip rfl rfl rfl (.v (.pick_true rfl rfl) (.nil ?_)))))
    exact .keepE (Sub.cons rfl (Sub.push rfl (Sub.push rfl (Sub.push rfl (Sub.push rfl (Sub.push rfl (Sub.pushSame hd Sub.rfl'))))))) .en
   first | refine .boolOr ?_ | skip
   refine .nil (TQ.then ?_)
   first | refine .cond_dec rfl (fun h3 => ?_) (fun h3 => ?_) | refine .cond rfl (fun h3 => ?_) (fun h3 => ?_)
   ·
    have hl : ¬ D.has l2 := fun c => by have := c.1; have := c.2; omega
    refine .seq (.region (.v (.assign rfl) (.nil (TQ.then (.ret (.then_ret ?_))))))
    exact .ret results123 (.tmp rfl .nil) () (by rw [addT_3 h1 hix hl]; rfl) trivial (by rw [addT_3 h1 hix hl]; exact .en)
   ·
    have hl : D.has l2 := ⟨by omega, by omega⟩
    refine .skip (TQ.then (.seq (.seq (.region (.v (.move rfl) (.v (.move rfl) (.v (.move rfl) (.call call111 (S_wardenref14_has) rfl .pk rfl (fun x39 hx39 => ?_)))))))))
    refine .v (by first | exact Val.not_dec rfl | exact Val.not rfl) ?_
    refine .nil (TQ.then ?_)
    first | refine .cond_dec rfl (fun h4 => ?_) (fun h4 => ?_) | refine .cond rfl (fun h4 => ?_) (fun h4 => ?_)
    ·
     refine .seq (.region (.v (.assign rfl) (.nil (TQ.then (.ret (.then_ret ?_))))))
     exact .ret results123 (.tmp rfl .nil) () (by rw [addT_4 h1 hix hl h4]; rfl) trivial (by rw [addT_4 h1 hix hl h4]; exact .en)
    ·
     replace h4 := Classical.byContradiction h4
     refine .skip (TQ.then (.seq (.seq (.draw (H := [RDbA d m _]) (.q 0 (.q 1 (.q 2 (.q 3 (.q 4 (.q 6 (.e 5 (.e 7 (.q 8 .done))))))))) (by kernel_rfl) .pk (by kernel_rfl) (by kernel_rfl) (by kernel_rfl) ?_))))
     refine .v rfl (.move rfl) (.v rfl (.nilCheck rfl) (.v rfl (.field fo_76_0_WRef14 rfl) (.v rfl (.loadC isAgg54 rfl .tk (fun w hw => RDbA.ptr hw)) ?_)))
     refine .v rfl (.move rfl) (.v rfl (.move rfl) (.eff rfl (fun fu_ li_ hk_ hs_ hl_ => ?_)))
     refine .call call110 (S_wardenref14_secure) rfl .pk rfl (fun x46 hx46 => ?_)
     refine .nil (TS.back hk_ hs_ hl_ .pk ?_)
     refine .eff rfl (fun fu_ li_ hk_ hs_ hl_ => ?_)
     refine .call call48 (S_RPeekD) rfl .pk rfl (fun x48 hx48 => ?_)
     refine .nil (TS.back hk_ hs_ hl_ .pk ?_)
     refine .v rfl (.neq32 (b := 0#32) rfl rfl) ?_
     refine .done (TQ.then ?_)
     first | refine .cond_dec rfl (fun h5 => ?_) (fun h5 => ?_) | refine .cond rfl (fun h5 => ?_) (fun h5 => ?_)
     ·
      refine .seq (.region (.v (.assign rfl) (.nil (TQ.then (.ret (.then_ret ?_))))))
      exact .ret results123 (.tmp rfl .nil) () (by rw [addT_5 h1 hix hl h4 h5]; rfl) trivial (by rw [addT_5 h1 hix hl h4 h5]; exact .en)
     ·
      refine .skip (TQ.then (.seq (.region (.v (.move rfl) (.call call154 (S_wardenref09_First) rfl .pk rfl (fun x52 hx52 => ?_))))))
      refine .v (.move rfl) (.v (.extract rfl rfl) (.v (.extract rfl rfl) (.v (.assign rfl) (.v (.assign rfl) (.nil (TQ.then (.seq (.draw (H := []) (.q 0 (.q 1 (.q 2 (.q 4 (.q 6 (.q 7 (.b 3 (.e 5 (.e 8 .done)) 5 (.e 3 (.e 8 .done))))))))) (by kernel_rfl) .pk (by kernel_rfl) (by kernel_rfl) (by kernel_rfl) ?_))))))))
      refine .v rfl (.move rfl) (.v rfl (.nilCheck rfl) (.v rfl (.field fo_76_0_WRef14 rfl) (.v rfl (.move rfl) (.v rfl (.move rfl) (.v rfl (.move rfl) (.both rfl rfl (fun fu_ li_ hk_ hs_ hl_ => ?_) (fun fu_ li_ hk_ hs_ hl_ => ?_)))))))
      ·
       refine .v (.loadC isAgg54 rfl .tk (fun w hw => RDbA.ptr hw)) ?_
       refine .nil (TS.back hk_ hs_ hl_ .pk ?_)
       refine .eff rfl (fun fu_ li_ hk_ hs_ hl_ => ?_)
       refine .call call110 (S_wardenref14_secure) rfl .pk rfl (fun x60 hx60 => ?_)
       refine .nil (TS.back hk_ hs_ hl_ .pk ?_)
       refine .eff rfl (fun fu_ li_ hk_ hs_ hl_ => ?_)
       refine .call call36 (S_RWriteD) rfl .pk rfl (fun x63 hx63 => ?_)
       refine .nil (TS.back hk_ hs_ hl_ .pk ?_)
       refine .done (TQ.then (.seq (.region (.v (.assign rfl) (.nil (TQ.then (.ret ?_)))))))
       exact .ret results123 (.tmp rfl .nil) () (by rw [addT_6 h1 hix hl h4 h5]; rfl) trivial (by rw [addT_6 h1 hix hl h4 h5]; exact .en)
      ·
       refine .call call110 (S_wardenref14_secure) rfl .pk rfl (fun x60 hx60 => ?_)
       refine .nil (TS.back hk_ hs_ hl_ .pk ?_)
       refine .eff rfl (fun fu_ li_ hk_ hs_ hl_ => ?_)
       refine .v (.loadC isAgg54 rfl .tk (fun w hw => RDbA.ptr hw)) ?_
       refine .nil (TS.back hk_ hs_ hl_ .pk ?_)
       refine .eff rfl (fun fu_ li_ hk_ hs_ hl_ => ?_)
       refine .call call36 (S_RWriteD) rfl .pk rfl (fun x63 hx63 => ?_)
       refine .nil (TS.back hk_ hs_ hl_ .pk ?_)
       refine .done (TQ.then (.seq (.region (.v (.assign rfl) (.nil (TQ.then (.ret ?_)))))))
       exact .ret results123 (.tmp rfl .nil) () (by rw [addT_6 h1 hix hl h4 h5]; rfl) trivial (by rw [addT_6 h1 hix hl h4 h5]; exact .en)
end Go.Wd
