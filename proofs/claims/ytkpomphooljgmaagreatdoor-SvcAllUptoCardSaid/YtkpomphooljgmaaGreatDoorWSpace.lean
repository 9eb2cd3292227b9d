/- PROVED HERE: contracts of functions of the program, walked: each returns what the plain model says, for all items that its precondition names. No condition beyond each theorem's own. -/
import Derived.Test.YtkpomphooljgmaaGreatDoorProg
import Derived.Test.YtkpomphooljgmaaGreatDoorModel
import Derived.Test.YtkpomphooljgmaaGreatDoorPk
import Derived.Test.YtkpomphooljgmaaGreatDoorMSpace
import Derived.Test.YtkpomphooljgmaaGreatDoorWWalk
import Derived.Test.YtkpomphooljgmaaGreatDoorWDb
namespace Go.Wd
open Go Go.Proofs Go.Proofs.Tryz
theorem DbA.lift {d m : Nat} {D : Db} {f : FuncId} {args : Array Value} {X : Type} {q : X → Prop} {ret : X → Value} {M' : X → Mem} (h : Spec prog f args [MemA m D.mem] q ret (fun x => [MemA m (M' x)])) (hM : ∀ x, (M' x).sec.length = D.mem.sec.length) :
  Spec prog f args [DbA d m D] q ret (fun x => [DbA d m { D with mem := M' x }]) :=
 DbA.open fun bw n hn hD => (h.use .pk).post fun x _ => DbA.fin (D := { D with mem := M' x }) (Db.ok.mem hD (hM x)) hn .pk
theorem S_EntryD {d m : Nat} {D : Db} {p : Int} : Spec prog 74 [ptr d, i64 p].toArray [DbA d m D] (fun _ : Unit => True) (fun _ => .tuple #[(D.get p).1.val, i64 (D.get p).2]) (fun _ => [DbA d m D]) :=
 DbA.open fun bw n hn hD => ((S_pagedb_DB_Entry hn (hn ▸ hD.pages.2) hD.ent).use .pk).post fun _ _ => DbA.fin hD hn .pk
theorem S_PagesD {d m : Nat} {D : Db} : Spec prog 91 [ptr d].toArray [DbA d m D] (fun _ : Unit => True) (fun _ => i64 D.ents.length) (fun _ => [DbA d m D]) :=
 DbA.open fun bw n hn hD => by
  subst hn
  exact ((S_pagedb_DB_Pages (births := D.births) hD.pages.2).use .pk).post fun _ _ => DbA.fin hD rfl .pk
theorem S_MemoryD {d m : Nat} {D : Db} : Spec prog 130 [ptr d].toArray [DbA d m D] (fun _ : Unit => True) (fun _ => ptr m) (fun _ => [DbA d m D]) :=
 DbA.open fun bw n hn hD => ((S_pagedb_DB_Memory (births := D.births) hn (hn ▸ hD.pages.2)).use .pk).post fun _ _ => DbA.fin hD hn .pk
theorem S_ReadD {d m : Nat} {D : Db} {sec : Bool} {pg off : Int} : Spec prog 135 [ptr m, .agg #[.bool sec, i64 pg], i64 off].toArray [DbA d m D] (fun _ : Unit => True) (fun _ => .tuple #[w32 (D.mem.peek sec pg off), i64 (D.mem.errW sec pg off)]) (fun _ => [DbA d m (D.tk (rdT D.mem sec pg off))]) :=
 DbA.lift S_mem_ReadT fun _ => congrArg List.length Mem.tk_sec
theorem S_WriteD {d m : Nat} {D : Db} {pg off : Int} {v : W} : Spec prog 35 [ptr m, .agg #[.bool true, i64 pg], i64 off, w32 v].toArray [DbA d m D] (fun _ : Unit => True) (fun _ => i64 (D.mem.write true pg off v).1) (fun _ => [DbA d m (D.wr pg off v)]) :=
 DbA.lift S_mem_Memory_Write fun _ => Mem.write_len.1
theorem S_HasD {d m : Nat} {D : Db} {sec : Bool} {pg : Int} : Spec prog 176 [ptr m, .agg #[.bool sec, i64 pg]].toArray [DbA d m D] (fun _ : Unit => True) (fun _ => .bool (decide (D.mem.has sec pg))) (fun _ => [DbA d m D]) :=
 DbA.lift S_mem_Memory_Has fun _ => rfl
theorem S_TranslateD {d m : Nat} {D : Db} {l1 a : Int} {va : W} : Spec prog 134 [ptr m, i64 l1, w32 va, i64 a].toArray [DbA d m D] (fun x => x ≤ 2) (fun _ => .tuple #[.agg #[.bool (transM D.mem l1 va a).sec, i64 (transM D.mem l1 va a).page], i64 (transM D.mem l1 va a).off, i64 (transM D.mem l1 va a).err]) (fun x => [DbA d m (D.tk x)]) :=
 DbA.lift S_walk_Translate fun _ => congrArg List.length Mem.tk_sec

theorem fo_210_0_WSpace : FieldOff prog 210 0 0 := FieldOff.of 46 1 underlying210 rfl sizeOf46 rfl
theorem fo_210_1_WSpace : FieldOff prog 210 1 1 := FieldOff.of 3 1 underlying210 rfl sizeOf3 rfl
theorem fo_210_2_WSpace : FieldOff prog 210 2 2 := FieldOff.of 3 1 underlying210 rfl sizeOf3 rfl
theorem pl_39_WSpace : Places prog 39 [(0, 1), (1, 1)] := ⟨_, underlying39, fun w => by simp [sizeOf3, sizeOf4]⟩
set_option maxHeartbeats 400000 in
theorem S_space_cell_read {d m : Nat} {D : Db} {p o : Int} : Spec prog 131 [.agg #[ptr m, i64 p, i64 o]].toArray [DbA d m D] (fun _ : Unit => True) (fun _ => w32 (D.pk p o)) (fun _ => [DbA d m (D.tk (rdT D.mem true p o))]) := by
 refine Spec.body func131 rfl ntmps131 rfl (fun σ R => ?_)
 refine .seq (.region (.box (vs := [_, _, _]) rfl rfl rfl (fun b1 => ?_)))
 refine .v (.assign (v := w32 0#32) rfl) (.nil (TQ.then (.seq (.region (.v (.field fo_210_0_WSpace rfl) (.v (.load isAgg46 rfl .tk (by rfl)) ?_))))))
 refine .v (.field fo_210_1_WSpace rfl) (.v (.load isAgg3 rfl .tk (by rfl)) ?_)
 refine .v (.build (cs := [_, _]) zeroValue39 pl_39_WSpace rfl rfl) ?_
 refine .v (.field fo_210_2_WSpace rfl) (.v (.load isAgg3 rfl .tk (by rfl)) ?_)
 refine .call call135 (S_ReadD) rfl .pk rfl (fun x13 hx13 => ?_)
 refine .v (.move rfl) (.v (.extract rfl rfl) (.v (.extract rfl rfl) (.v (.assign rfl) (.v (.assign rfl) (.nil (TQ.then (.seq (.region (.v (.move rfl) (.v (.assign rfl) (.nil (TQ.then (.ret ?_)))))))))))))
 exact .ret results131 (.tmp rfl .nil) () rfl trivial .en

set_option maxHeartbeats 400000 in
theorem S_space_cell_lay {d m : Nat} {D : Db} {p o : Int} {v : W} : Spec prog 132 [.agg #[ptr m, i64 p, i64 o], w32 v].toArray [DbA d m D] (fun _ : Unit => True) (fun _ => .tuple #[]) (fun _ => [DbA d m (D.wr p o v)]) := by
 refine Spec.body func132 rfl ntmps132 rfl (fun σ R => ?_)
 refine .seq (.region (.box (vs := [_, _, _]) rfl rfl rfl (fun b2 => ?_)))
 refine .nil (TQ.then (.region (.v (.field fo_210_0_WSpace rfl) (.v (.load isAgg46 rfl .tk (by rfl)) ?_))))
 refine .v (.field fo_210_1_WSpace rfl) (.v (.load isAgg3 rfl .tk (by rfl)) ?_)
 refine .v (.build (cs := [_, _]) zeroValue39 pl_39_WSpace rfl rfl) ?_
 refine .v (.field fo_210_2_WSpace rfl) (.v (.load isAgg3 rfl .tk (by rfl)) ?_)
 refine .v (.move rfl) (.call call35 (S_WriteD) rfl .pk rfl (fun x12 hx12 => ?_))
 refine .nil ?_
 exact .ret0 (by first | exact .inl rfl | exact .inr rfl) rfl () rfl trivial .en

abbrev rdF (m : Nat) (p o : Int) : Value := .func (.func 131) #[.agg #[ptr m, i64 p, i64 o]] #[]
abbrev lyF (m : Nat) (p o : Int) : Value := .func (.func 132) #[.agg #[ptr m, i64 p, i64 o]] #[]
def rdV (m : Nat) (f : Fd) : Value := if f.err ≠ 0 then .nilFunc else rdF m f.page f.j
def lyV (m : Nat) (f : Fd) : Value := if f.err ≠ 0 then .nilFunc else lyF m f.page f.j
theorem plc_cells {m : Nat} {f : Fd} : [rdV m f, lyV m f].all isCell = true := by
 unfold rdV lyV; split <;> rfl
theorem rdV_ok {m : Nat} {f : Fd} (h : ¬ f.err ≠ 0) : rdV m f = rdF m f.page f.j := if_neg h
theorem lyV_ok {m : Nat} {f : Fd} (h : ¬ f.err ≠ 0) : lyV m f = lyF m f.page f.j := if_neg h
theorem rdV_err {m : Nat} {f : Fd} (h : f.err ≠ 0) : rdV m f = .nilFunc := if_pos h
theorem lyV_err {m : Nat} {f : Fd} (h : f.err ≠ 0) : lyV m f = .nilFunc := if_pos h

theorem pl_177_WSpace : Places prog 177 [(0, 1), (1, 1)] := ⟨_, underlying177, fun w => by simp [sizeOf174, sizeOf175]⟩
theorem pl_210_WSpace : Places prog 210 [(0, 1), (1, 1), (2, 1)] := ⟨_, underlying210, fun w => by simp [sizeOf3, sizeOf46]⟩
set_option maxHeartbeats 400000 in
theorem S_space_at {d m : Nat} {D : Db} {p o : Int} : Spec prog 99 [ptr d, i64 p, i64 o].toArray [DbA d m D] (fun _ : Unit => True) (fun _ => .agg #[rdF m p o, lyF m p o]) (fun _ => [DbA d m D]) := by
 refine Spec.body func99 rfl ntmps99 rfl (fun σ R => ?_)
 refine .seq (.region (.alloc zeroValue177 rfl rfl (fun b6 => ?_)))
 refine .nil (TQ.then (.seq (.region (.v (.move rfl) (.call call130 (S_MemoryD) rfl .pk rfl (fun x9 hx9 => ?_))))))
 refine .v (.move rfl) (.v (.move rfl) (.v (.build (cs := [_, _, _]) zeroValue210 pl_210_WSpace rfl rfl) ?_))
 refine .alloc zeroValue210 rfl rfl (fun b7 => ?_)
 refine .storeAll (us := [_, _, _]) sizeOf210 rfl rfl rfl rfl .up rfl ?_
 refine .nil (TQ.then (.seq (.region (.v (.loadAgg (vs := [_, _, _]) isAgg210 sizeOf210 rfl .tk (by rfl) (by rfl)) ?_))))
 refine .v (.makeFunc rfl rfl) ?_
 refine .v (.loadAgg (vs := [_, _, _]) isAgg210 sizeOf210 rfl .tk (by rfl) (by rfl)) ?_
 refine .v (.makeFunc rfl rfl) ?_
 refine .v (.build (cs := [_, _]) zeroValue177 pl_177_WSpace rfl rfl) ?_
 refine .storeAll (us := [_, _]) sizeOf177 rfl rfl rfl rfl .up rfl ?_
 refine .nil (TQ.then (.ret ?_))
 exact .ret results99 (.agg isAgg177 sizeOf177 rfl .tk (by rfl) (by rfl) .nil) () (by first | rfl | simp [tup, *]) trivial .en

theorem fo_107_0_WSpace : FieldOff prog 107 0 0 := FieldOff.of 64 1 underlying107 rfl sizeOf64 rfl
theorem fo_107_1_WSpace : FieldOff prog 107 1 1 := FieldOff.of 3 1 underlying107 rfl sizeOf3 rfl
set_option maxHeartbeats 400000 in
theorem S_space_owns {d m : Nat} {D : Db} {sp p t : Int} : Spec prog 100 [ptr d, i64 sp, i64 p, i64 t].toArray [DbA d m D] (fun _ : Unit => True) (fun _ => .bool (decide (ownsD D sp p t))) (fun _ => [DbA d m D]) := by
 refine Spec.body func100 rfl ntmps100 rfl (fun σ R => ?_)
 refine .seq (.region (.v (.assign rfl) (.nil (TQ.then (.seq (.region (.v (.move rfl) (.v (.move rfl) (.call call74 (S_EntryD) rfl .pk rfl (fun x14 hx14 => ?_))))))))))
 refine .v (.move rfl) (.v (.extract rfl rfl) (.v (.extract rfl rfl) (.alloc zeroValue107 rfl rfl (fun b9 => ?_))))
 refine .storeAll (us := [_, _, _, _, _]) sizeOf107 rfl rfl rfl rfl .up rfl ?_
 refine .v (.assign rfl) (.nil (TQ.then (.seq (.region (.v (.move rfl) (.v (.eql rfl rfl) (.v (.move rfl) ?_)))))))
 refine' TL.andG (k := 5) (dj := 19) (d := 24) rfl ?_ ?_ ?_
 rotate_left
 ·
  intro g24 hd
  first | replace g24 := of_decide_eq_true g24 | skip
  refine .want rfl rfl (.v (.field fo_107_0_WSpace rfl) (.want rfl rfl (.v (.load isAgg64 rfl .tk (by rfl)) ?_)))
  refine .want rfl rfl (.v (.move rfl) (.want rfl rfl (.v (.eql rfl rfl) (.v (.pick_true rfl rfl) (.nil ?_)))))
  exact .keep (Sub.cons rfl (Sub.push rfl (Sub.push rfl (Sub.push rfl (Sub.push rfl (Sub.push rfl (Sub.pushSame hd Sub.rfl')))))))
 ·
  intro g24 hd
  refine .skip rfl rfl rfl (.skip rfl rfl rfl (.skip rfl rfl rfl (.skip rfl rfl rfl (.v (.pick_false rfl rfl) (.nil ?_)))))
  exact .keep (Sub.cons rfl (Sub.push rfl (Sub.push rfl (Sub.push rfl (Sub.push rfl (Sub.push rfl (Sub.pushSame hd Sub.rfl')))))))
 first | refine .boolAnd ?_ | skip
 refine .v (.move rfl) ?_
 refine' TL.andG (k := 5) (dj := 25) (d := 30) rfl ?_ ?_ ?_
 rotate_left
 ·
  intro g30 hd
  first | replace g30 := of_decide_eq_true g30 | skip
  refine .want rfl rfl (.v (.field fo_107_1_WSpace rfl) (.want rfl rfl (.v (.load isAgg3 rfl .tk (by rfl)) ?_)))
  refine .want rfl rfl (.v (.move rfl) (.want rfl rfl (.v (.eql rfl rfl) (.v (.pick_true rfl rfl) (.nil ?_)))))
  exact .keep (Sub.cons rfl (Sub.push rfl (Sub.push rfl (Sub.push rfl (Sub.push rfl (Sub.push rfl (Sub.pushSame hd Sub.rfl')))))))
 ·
  intro g30 hd
  refine .skip rfl rfl rfl (.skip rfl rfl rfl (.skip rfl rfl rfl (.skip rfl rfl rfl (.v (.pick_false rfl rfl) (.nil ?_)))))
  exact .keep (Sub.cons rfl (Sub.push rfl (Sub.push rfl (Sub.push rfl (Sub.push rfl (Sub.push rfl (Sub.pushSame hd Sub.rfl')))))))
 first | refine .boolAnd ?_ | skip
 refine .v (.assign rfl) (.nil (TQ.then (.ret ?_)))
 exact .ret results100 (.tmp rfl .nil) () (congrArg Value.bool (decide_eq_decide.2 owns_get.symm)) trivial .en

theorem fo_107_3_WSpace : FieldOff prog 107 3 3 := FieldOff.of 69 1 underlying107 rfl sizeOf69 rfl
set_option maxHeartbeats 400000 in
theorem S_space_Table {d m : Nat} {D : Db} {sp : Int} : Spec prog 75 [ptr d, i64 sp].toArray [DbA d m D] (fun x : Nat => x ≤ 1) (fun x => .tuple #[i64 (tableD D sp).1, i64 (tableD D sp).2]) (fun x => [DbA d m (D.tk x)]) := by
 refine Spec.body func75 rfl ntmps75 rfl (fun σ R => ?_)
 refine .seq (.region (.v (.assign rfl) (.v (.assign rfl) (.nil (TQ.then (.seq (.region (.v (.move rfl) (.v (.move rfl) (.call call74 (S_EntryD) rfl .pk rfl (fun x12 hx12 => ?_)))))))))))
 refine .v (.move rfl) (.v (.extract rfl rfl) (.v (.extract rfl rfl) (.alloc zeroValue107 rfl rfl (fun b6 => ?_))))
 refine .storeAll (us := [_, _, _, _, _]) sizeOf107 rfl rfl rfl rfl .up rfl ?_
 refine .v (.assign rfl) (.nil (TQ.then (.seq (.block (.seq (.region (.v (.move rfl) (.v (.neq rfl rfl) (.v (.assign rfl) (.nil (TQ.then ?_)))))))))))
 first | refine .cond_dec rfl (fun h1 => ?_) (fun h1 => ?_) | refine .cond rfl (fun h1 => ?_) (fun h1 => ?_)
 ·
  refine .seq (.region (.v (.assign rfl) (.v (.assign rfl) (.nil (TQ.then (.ret (.blk_ret (.then_ret ?_))))))))
  exact .ret results75 (.tmp rfl (.tmp rfl .nil)) 0 (by rw [tableD_1 h1]; rfl) (Nat.zero_le _) .en
 ·
  refine .seq (.region (.v (.field fo_107_0_WSpace rfl) (.v (.load isAgg64 rfl .tk (by rfl)) ?_)))
  refine .v (.neq rfl rfl) (.v (.assign rfl) (.nil (TQ.then ?_)))
  first | refine .cond_dec rfl (fun h2 => ?_) (fun h2 => ?_) | refine .cond rfl (fun h2 => ?_) (fun h2 => ?_)
  ·
   refine .seq (.region (.v (.assign rfl) (.v (.assign rfl) (.nil (TQ.then (.ret (.blk_ret (.then_ret ?_))))))))
   exact .ret results75 (.tmp rfl (.tmp rfl .nil)) 0 (by rw [tableD_2 h1 h2]; rfl) (Nat.zero_le _) .en
  ·
   refine .seq (.region (.v (.field fo_107_3_WSpace rfl) (.v (.load isAgg69 rfl .tk (by rfl)) ?_)))
   refine .v (.eql rfl rfl) (.v (.assign rfl) (.nil (TQ.then ?_)))
   first | refine .cond_dec rfl (fun h3 => ?_) (fun h3 => ?_) | refine .cond rfl (fun h3 => ?_) (fun h3 => ?_)
   ·
    refine .seq (.region (.v (.assign rfl) (.v (.assign rfl) (.nil (TQ.then (.ret (.blk_ret (.then_ret ?_))))))))
    exact .ret results75 (.tmp rfl (.tmp rfl .nil)) 0 (by rw [tableD_3 h1 h2 h3]; rfl) (Nat.zero_le _) .en
   ·
    refine .skip (.blk_normal (TQ.then (.seq (.region (.v (.move rfl) (.v (.move rfl) (.call call99 (S_space_at) rfl .pk rfl (fun x28 hx28 => ?_))))))))
    refine .v (.fieldC underlying177 rfl isAgg174 rfl (by rfl)) ?_
    refine .callV (fs := [.agg [ptr m, i64 (sp), i64 (0)].toArray]) (cs := []) rfl call131 rfl (S_space_cell_read (d := d)) .pk rfl (fun x30 hx30 => ?_)
    refine .v (.assign rfl) (.nil (TQ.then (.seq (.seq (.region (.v (.move rfl) (.v (.conv_32_64 underlying23 underlying2 rfl) ?_)))))))
    refine .v (.move rfl) (.call call91 (S_PagesD) rfl .pk rfl (fun x34 hx34 => ?_))
    refine .v (.geq rfl rfl) (.v (.move rfl) ?_)
    refine' TL.orG (k := 7) (dj := 36) (d := 43) rfl ?_ ?_ ?_
    rotate_left
    ·
     intro g43 hd
     first | replace g43 := of_decide_eq_false g43 | skip
     refine .want rfl rfl (.v (.move rfl) (.want rfl rfl (.v (.move rfl) (.want rfl rfl (.v (.move rfl) (.want rfl rfl (.v (.conv_32_64 underlying23 underlying3 rfl) ?_)))))))
     refine .want rfl rfl (.call call100 (S_space_owns) rfl .pk rfl (fun x41 hx41 => ?_))
     refine .want rfl rfl (.v (by first | exact Val.not_dec rfl | exact Val.not rfl) ?_)
     refine .v (.pick_false rfl rfl) (.nil ?_)
     exact .keepE (Sub.cons rfl (Sub.push rfl (Sub.push rfl (Sub.push rfl (Sub.push rfl (Sub.push rfl (Sub.push rfl (Sub.push rfl (Sub.pushSame hd Sub.rfl'))))))))) .en
    ·
     intro g43 hd
     refine .skip rfl rfl rfl (.skip rfl rfl rfl (.skip rfl rfl rfl (.skip rfl rfl rfl (.skip rfl rfl rfl (.skip rfl rfl rfl (.v (.pick_true rfl rfl) (.nil ?_)))))))
     exact .keepE (Sub.cons rfl (Sub.push rfl (Sub.push rfl (Sub.push rfl (Sub.push rfl (Sub.push rfl (Sub.push rfl (Sub.push rfl (Sub.pushSame hd Sub.rfl'))))))))) .en
    first | refine .boolOr ?_ | skip
    refine .nil (TQ.then ?_)
    first | refine .cond_dec rfl (fun h4 => ?_) (fun h4 => ?_) | refine .cond rfl (fun h4 => ?_) (fun h4 => ?_)
    ·
     refine .seq (.region (.v (.assign rfl) (.v (.assign rfl) (.nil (TQ.then (.ret (.then_ret ?_)))))))
     exact .ret results75 (.tmp rfl (.tmp rfl .nil)) (rdT D.mem true sp 0) (by rw [tableD_4 h1 h2 h3 (fun c => by rcases h4 with h4 | h4; (have h5 := c.1.2; have h6 : (D.ents.length : Int) ≤ (D.pk sp 0).toNat := h4; omega); exact h4 c)]; rfl) rdT_le .en
    ·
     refine .skip (TQ.then (.seq (.region (.v (.move rfl) (.v (.conv_32_64 underlying23 underlying3 rfl) ?_)))))
     refine .v (.assign rfl) (.v (.assign rfl) (.nil (TQ.then (.ret ?_))))
     exact .ret results75 (.tmp rfl (.tmp rfl .nil)) (rdT D.mem true sp 0) (by rw [tableD_5 h1 h2 h3 (Classical.byContradiction fun c => h4 (.inr c))]; rfl) rdT_le .en

theorem fo_218_0_WSpace : FieldOff prog 218 0 0 := FieldOff.of 23 1 underlying218 rfl sizeOf23 rfl
theorem fo_218_1_WSpace : FieldOff prog 218 1 1 := FieldOff.of 4 1 underlying218 rfl sizeOf4 rfl
theorem fo_218_2_WSpace : FieldOff prog 218 2 2 := FieldOff.of 4 1 underlying218 rfl sizeOf4 rfl
set_option maxHeartbeats 400000 in
theorem S_space_Word {x : Mp} : Spec prog 161 [x.val].toArray [] (fun _ : Unit => True) (fun _ => .tuple #[w32 (wordM x).1, i64 (wordM x).2]) (fun _ => []) := by
 refine Spec.body func161 rfl ntmps161 rfl (fun σ R => ?_)
 refine .seq (.region (.box (vs := [_, _, _]) rfl rfl rfl (fun b1 => ?_)))
 refine .v (.assign (v := w32 0#32) rfl) (.v (.assign rfl) (.nil (TQ.then (.seq (.seq (.region (.v (.field fo_218_0_WSpace rfl) (.v (.load isAgg23 rfl .tk (by rfl)) ?_))))))))
 refine .v (.rem32 (b := 4096#32) rfl rfl (by decide)) ?_
 refine .v (.neq32 (b := 0#32) rfl rfl) ?_
 refine .v (.move rfl) ?_
 refine' TL.orG (k := 4) (dj := 9) (d := 13) rfl ?_ ?_ ?_
 rotate_left
 ·
  intro g13 hd
  first | replace g13 := of_decide_eq_false g13 | skip
  refine .want rfl rfl (.v (.field fo_218_0_WSpace rfl) (.want rfl rfl (.v (.load isAgg23 rfl .tk (by rfl)) ?_)))
  refine .want rfl rfl (.v (.geq32 (b := 1073741824#32) rfl rfl) ?_)
  refine .v (.pick_false rfl rfl) (.nil ?_)
  exact .keep (Sub.cons rfl (Sub.push rfl (Sub.push rfl (Sub.push rfl (Sub.push rfl (Sub.pushSame hd Sub.rfl'))))))
 ·
  intro g13 hd
  refine .skip rfl rfl rfl (.skip rfl rfl rfl (.skip rfl rfl rfl (.v (.pick_true rfl rfl) (.nil ?_))))
  exact .keep (Sub.cons rfl (Sub.push rfl (Sub.push rfl (Sub.push rfl (Sub.push rfl (Sub.pushSame hd Sub.rfl'))))))
 first | refine .boolOr ?_ | skip
 refine .nil (TQ.then ?_)
 first | refine .cond_dec rfl (fun h1 => ?_) (fun h1 => ?_) | refine .cond rfl (fun h1 => ?_) (fun h1 => ?_)
 ·
  refine .seq (.region (.v (.assign (v := w32 0#32) rfl) (.v (.assign rfl) (.nil (TQ.then (.ret (.then_ret ?_)))))))
  exact .ret results161 (.tmp rfl (.tmp rfl .nil)) () (by rw [wordM, if_pos (c := mpBad x) h1]; rfl) trivial .en
 ·
  have hw := wordM_or (m := x) h1
  refine .skip (TQ.then (.seq (.region (.v (.field fo_218_0_WSpace rfl) (.v (.load isAgg23 rfl .tk (by rfl)) ?_)))))
  refine .v (.or32 (b := 1#32) rfl rfl) (.v (.assign rfl) (.nil (TQ.then (.seq (.seq (.region (.v (.field fo_218_1_WSpace rfl) (.v (.load isAgg4 rfl .tk (by rfl)) ?_))))))))
  refine .nil (TQ.then ?_)
  first | refine .cond_dec rfl (fun h2 => ?_) (fun h2 => ?_) | refine .cond rfl (fun h2 => ?_) (fun h2 => ?_)
  ·
   refine .region (.v (.move rfl) (.v (.or32 (b := 2#32) rfl rfl) (.v (.assign rfl) (.nil (TQ.then (.seq (.seq (.region (.v (.field fo_218_2_WSpace rfl) (.v (.load isAgg4 rfl .tk (by rfl)) ?_))))))))))
   refine .nil (TQ.then ?_)
   first | refine .cond_dec rfl (fun h3 => ?_) (fun h3 => ?_) | refine .cond rfl (fun h3 => ?_) (fun h3 => ?_)
   ·
    refine .region (.v (.move rfl) (.v (.or32 (b := 4#32) rfl rfl) (.v (.assign rfl) (.nil (TQ.then (.seq (.region (.v (.move rfl) (.v (.assign rfl) (.v (.assign rfl) (.nil (TQ.then (.ret ?_)))))))))))))
    exact .ret results161 (.tmp rfl (.tmp rfl .nil)) () (by rw [wordM, if_neg (c := mpBad x) h1, ← hw]; simp only [h2, h3, if_true, Bool.false_eq_true, if_false]; rfl) trivial .en
   ·
    refine .skip (TQ.then (.seq (.region (.v (.move rfl) (.v (.assign rfl) (.v (.assign rfl) (.nil (TQ.then (.ret ?_)))))))))
    exact .ret results161 (.tmp rfl (.tmp rfl .nil)) () (by rw [wordM, if_neg (c := mpBad x) h1, ← hw]; simp only [h2, h3, if_true, Bool.false_eq_true, if_false]; rfl) trivial .en
  ·
   refine .skip (TQ.then (.seq (.seq (.region (.v (.field fo_218_2_WSpace rfl) (.v (.load isAgg4 rfl .tk (by rfl)) ?_))))))
   refine .nil (TQ.then ?_)
   first | refine .cond_dec rfl (fun h3 => ?_) (fun h3 => ?_) | refine .cond rfl (fun h3 => ?_) (fun h3 => ?_)
   ·
    refine .region (.v (.move rfl) (.v (.or32 (b := 4#32) rfl rfl) (.v (.assign rfl) (.nil (TQ.then (.seq (.region (.v (.move rfl) (.v (.assign rfl) (.v (.assign rfl) (.nil (TQ.then (.ret ?_)))))))))))))
    exact .ret results161 (.tmp rfl (.tmp rfl .nil)) () (by rw [wordM, if_neg (c := mpBad x) h1, ← hw]; simp only [h2, h3, if_true, Bool.false_eq_true, if_false]; rfl) trivial .en
   ·
    refine .skip (TQ.then (.seq (.region (.v (.move rfl) (.v (.assign rfl) (.v (.assign rfl) (.nil (TQ.then (.ret ?_)))))))))
    exact .ret results161 (.tmp rfl (.tmp rfl .nil)) () (by rw [wordM, if_neg (c := mpBad x) h1, ← hw]; simp only [h2, h3, if_true, Bool.false_eq_true, if_false]; rfl) trivial .en

theorem pl_218_WSpace : Places prog 218 [(0, 1), (1, 1), (2, 1)] := ⟨_, underlying218, fun w => by simp [sizeOf4, sizeOf23]⟩
set_option maxHeartbeats 400000 in
theorem S_space_Parse {w : W} : Spec prog 138 [w32 w].toArray [] (fun _ : Unit => True) (fun _ => .tuple #[(parseM w).1.val, i64 (parseM w).2]) (fun _ => []) := by
 refine Spec.body func138 rfl ntmps138 rfl (fun σ R => ?_)
 refine .seq (.region (.alloc zeroValue218 rfl rfl (fun b2 => ?_)))
 refine .v (.assign rfl) (.nil (TQ.then (.seq (.region (.v (.move rfl) (.v (.andNot32 (b := 4095#32) rfl rfl) ?_))))))
 refine .v (.move rfl) (.v (.and32 (b := 2#32) rfl rfl) (.v (.neq32 (b := 0#32) rfl rfl) ?_))
 refine .v (.move rfl) (.v (.and32 (b := 4#32) rfl rfl) (.v (.neq32 (b := 0#32) rfl rfl) ?_))
 refine .v (.build (cs := [_, _, _]) zeroValue218 pl_218_WSpace rfl rfl) ?_
 refine .alloc zeroValue218 rfl rfl (fun b4 => ?_)
 refine .storeAll (us := [_, _, _]) sizeOf218 rfl rfl rfl rfl .up rfl ?_
 refine .nil (TQ.then (.seq (.seq ?_)))
 obtain ⟨g, hg⟩ : ∃ g : Mp, g = guessM w := ⟨_, rfl⟩
 have hg2 := guessM_bits (w := w)
 rw [← hg] at hg2
 subst hg2
 refine .region (.v (.loadAgg (vs := [_, _, _]) isAgg218 sizeOf218 rfl .tk (by rfl) (by rfl)) ?_)
 refine .call call161 (S_space_Word (x := ⟨w &&& ~~~4095#32, decide (w &&& 2#32 ≠ 0#32), decide (w &&& 4#32 ≠ 0#32)⟩)) rfl .pk rfl (fun x18 hx18 => ?_)
 refine .v (.move rfl) (.v (.extract rfl rfl) (.v (.extract rfl rfl) (.v (.assign rfl) (.v (.assign rfl) (.nil (TQ.then (.seq (.region (.v (.move rfl) (.v (.neq rfl rfl) (.v (.move rfl) ?_)))))))))))
 refine' TL.orG (k := 4) (dj := 23) (d := 27) rfl ?_ ?_ ?_
 rotate_left
 ·
  intro g27 hd
  first | replace g27 := of_decide_eq_false g27 | skip
  refine .want rfl rfl (.v (.move rfl) (.want rfl rfl (.v (.move rfl) (.want rfl rfl (.v (.neq32 rfl rfl) ?_)))))
  refine .v (.pick_false rfl rfl) (.nil ?_)
  exact .keep (Sub.cons rfl (Sub.push rfl (Sub.push rfl (Sub.push rfl (Sub.push rfl (Sub.pushSame hd Sub.rfl'))))))
 ·
  intro g27 hd
  refine .skip rfl rfl rfl (.skip rfl rfl rfl (.skip rfl rfl rfl (.v (.pick_true rfl rfl) (.nil ?_))))
  exact .keep (Sub.cons rfl (Sub.push rfl (Sub.push rfl (Sub.push rfl (Sub.push rfl (Sub.pushSame hd Sub.rfl'))))))
 first | refine .boolOr ?_ | skip
 refine .nil (TQ.then ?_)
 first | refine .cond_dec rfl (fun h1 => ?_) (fun h1 => ?_) | refine .cond rfl (fun h1 => ?_) (fun h1 => ?_)
 ·
  refine .seq (.region (.v (.build (cs := [_, _, _]) zeroValue218 pl_218_WSpace rfl rfl) ?_))
  refine .storeAll (us := [_, _, _]) sizeOf218 rfl rfl rfl rfl .up rfl ?_
  refine .v (.assign rfl) (.nil (TQ.then (.ret (.then_ret ?_))))
  exact .ret results138 (.agg isAgg218 sizeOf218 rfl .tk (by rfl) (by rfl) (.tmp rfl .nil)) () (by rw [parseM, ← hg, if_pos h1]; rfl) trivial .en
 ·
  refine .skip (TQ.then (.seq (.region (.v (.loadAgg (vs := [_, _, _]) isAgg218 sizeOf218 rfl .tk (by rfl) (by rfl)) ?_))))
  refine .storeAll (us := [_, _, _]) sizeOf218 rfl rfl rfl rfl .up rfl ?_
  refine .v (.assign rfl) (.nil (TQ.then (.ret ?_)))
  exact .ret results138 (.agg isAgg218 sizeOf218 rfl .tk (by rfl) (by rfl) (.tmp rfl .nil)) () (by rw [parseM, ← hg, if_neg h1]; rfl) trivial .en

set_option maxHeartbeats 400000 in
theorem S_space_second {d m : Nat} {D : Db} {sp : Int} {w : W} : Spec prog 174 [ptr d, i64 sp, w32 w].toArray [DbA d m D] (fun _ : Unit => True) (fun _ => .tuple #[i64 (parseFirst w).1, .bool (decide ((parseFirst w).2 = 0 ∧ ownsD D sp (parseFirst w).1 4))]) (fun _ => [DbA d m D]) := by
 refine Spec.body func174 rfl ntmps174 rfl (fun σ R => ?_)
 refine .seq (.region (.v (.assign rfl) (.v (.assign rfl) (.nil (TQ.then (.seq (.region (.v (.move rfl) (.call call185 (S_walk_ParseFirst) rfl .pk rfl (fun x12 hx12 => ?_))))))))))
 refine .v (.move rfl) (.v (.extract rfl rfl) (.v (.extract rfl rfl) (.v (.assign rfl) (.v (.assign rfl) (.nil (TQ.then (.seq (.region (.v (.move rfl) (.v (.move rfl) (.v (.eql rfl rfl) (.v (.move rfl) ?_))))))))))))
 refine' TL.andG (k := 5) (dj := 18) (d := 23) rfl ?_ ?_ ?_
 rotate_left
 ·
  intro g23 hd
  first | replace g23 := of_decide_eq_true g23 | skip
  refine .want rfl rfl (.v (.move rfl) (.want rfl rfl (.v (.move rfl) (.want rfl rfl (.v (.move rfl) (.want rfl rfl (.call call100 (S_space_owns) rfl .pk rfl (fun x22 hx22 => ?_))))))))
  refine .v (.pick_true rfl rfl) (.nil ?_)
  exact .keepE (Sub.cons rfl (Sub.push rfl (Sub.push rfl (Sub.push rfl (Sub.push rfl (Sub.push rfl (Sub.pushSame hd Sub.rfl'))))))) .en
 ·
  intro g23 hd
  refine .skip rfl rfl rfl (.skip rfl rfl rfl (.skip rfl rfl rfl (.skip rfl rfl rfl (.v (.pick_false rfl rfl) (.nil ?_)))))
  exact .keepE (Sub.cons rfl (Sub.push rfl (Sub.push rfl (Sub.push rfl (Sub.push rfl (Sub.push rfl (Sub.pushSame hd Sub.rfl'))))))) .en
 first | refine .boolAnd ?_ | skip
 refine .v (.assign rfl) (.v (.assign rfl) (.nil (TQ.then (.ret ?_))))
 exact .ret results174 (.tmp rfl (.tmp rfl .nil)) () (by first | rfl | simp [tup, *]) trivial .en

set_option maxHeartbeats 400000 in
theorem S_space_find {d m : Nat} {D : Db} {sp : Int} {va : W} : Spec prog 164 [ptr d, i64 sp, w32 va].toArray [DbA d m D] (fun x : Nat => x ≤ 2) (fun x => .tuple #[.agg #[rdV m (findD D sp va), lyV m (findD D sp va)], i64 (findD D sp va).err]) (fun x => [DbA d m (D.tk x)]) := by
 refine Spec.body func164 rfl ntmps164 rfl (fun σ R => ?_)
 refine .seq (.region (.alloc zeroValue177 rfl rfl (fun b6 => ?_)))
 refine .v (.assign rfl) (.nil (TQ.then (.seq (.region (.v (.move rfl) (.v (.move rfl) (.call call75 (S_space_Table) rfl .pk rfl (fun x18 hx18 => ?_))))))))
 refine .v (.move rfl) (.v (.extract rfl rfl) (.v (.extract rfl rfl) (.v (.assign rfl) (.v (.assign rfl) (.nil (TQ.then (.seq (.seq (.region (.v (.move rfl) (.v (.neq rfl rfl) (.nil (TQ.then ?_)))))))))))))
 first | refine .cond_dec rfl (fun h1 => ?_) (fun h1 => ?_) | refine .cond rfl (fun h1 => ?_) (fun h1 => ?_)
 ·
  refine .seq (.region (.v (.build (cs := [_, _]) zeroValue177 pl_177_WSpace rfl rfl) ?_))
  refine .v (.move rfl) (.storeAll (us := [_, _]) sizeOf177 rfl rfl rfl rfl .up rfl ?_)
  refine .v (.assign rfl) (.nil (TQ.then (.ret (.then_ret ?_))))
  exact .ret results164 (.agg isAgg177 sizeOf177 rfl .tk (by rfl) (by rfl) (.tmp rfl .nil)) x18 (by rw [findD_1 h1, rdV_err h1, lyV_err h1]; rfl) (by omega) .en
 ·
  refine .skip (TQ.then (.seq (.region (.v (.move rfl) (.call call159 (S_walk_Split) rfl .pk rfl (fun x27 hx27 => ?_))))))
  refine .v (.move rfl) (.v (.extract rfl rfl) (.v (.extract rfl rfl) (.v (.extract rfl rfl) (.v (.extract rfl rfl) (.v (.assign rfl) (.v (.assign rfl) (.v (.assign rfl) (.v (.assign rfl) (.nil (TQ.then (.seq (.seq (.region (.v (.move rfl) (.v (.neq rfl rfl) (.nil (TQ.then ?_)))))))))))))))))
  first | refine .cond_dec rfl (fun h2 => ?_) (fun h2 => ?_) | refine .cond rfl (fun h2 => ?_) (fun h2 => ?_)
  ·
   refine .seq (.region (.v (.build (cs := [_, _]) zeroValue177 pl_177_WSpace rfl rfl) ?_))
   refine .storeAll (us := [_, _]) sizeOf177 rfl rfl rfl rfl .up rfl ?_
   refine .v (.assign rfl) (.nil (TQ.then (.ret (.then_ret ?_))))
   exact .ret results164 (.agg isAgg177 sizeOf177 rfl .tk (by rfl) (by rfl) (.tmp rfl .nil)) x18 (by rw [findD_2 h1 h2]; rfl) (by omega) .en
  ·
   refine .skip (TQ.then (.seq (.region (.v (.move rfl) (.v (.move rfl) (.v (.move rfl) (.v (.move rfl) (.v (.move rfl) (.call call99 (S_space_at) rfl .pk rfl (fun x41 hx41 => ?_))))))))))
   refine .v (.fieldC underlying177 rfl isAgg174 rfl (by rfl)) ?_
   refine .callV (fs := [.agg [ptr m, i64 ((tableD D sp).1), i64 (vaI va)].toArray]) (cs := []) rfl call131 rfl (S_space_cell_read (d := d) (D := D.tk x18)) .pk rfl (fun x43 hx43 => ?_)
   refine .call call174 (S_space_second) rfl .pk rfl (fun x44 hx44 => ?_)
   refine .v (.move rfl) (.v (.extract rfl rfl) (.v (.extract rfl rfl) (.v (.assign rfl) (.v (.assign rfl) (.nil (TQ.then (.seq (.seq ?_))))))))
   rw [Db.tk_pk]
   refine .region (.v (.move rfl) (.v (by first | exact Val.not_dec rfl | exact Val.not rfl) ?_))
   refine .nil (TQ.then ?_)
   first | refine .cond_dec rfl (fun h3 => ?_) (fun h3 => ?_) | refine .cond rfl (fun h3 => ?_) (fun h3 => ?_)
   ·
    refine .seq (.region (.v (.build (cs := [_, _]) zeroValue177 pl_177_WSpace rfl rfl) ?_))
    refine .storeAll (us := [_, _]) sizeOf177 rfl rfl rfl rfl .up rfl ?_
    refine .v (.assign rfl) (.nil (TQ.then (.ret (.then_ret ?_))))
    exact .ret results164 (.agg isAgg177 sizeOf177 rfl .tk (by rfl) (by rfl) (.tmp rfl .nil)) (x18 + rdT (D.tk x18).mem true (tableD D sp).1 (vaI va)) (by rw [findD_3 h1 h2 (Classical.byContradiction fun c => h3 ⟨Classical.byContradiction fun d => c (.inl d), Classical.byContradiction fun d => c (.inr d)⟩)]; rfl) (by have := rdT_le (M := (D.tk x18).mem) (s := true) (p := (tableD D sp).1) (o := vaI va); omega) (by simp only [Db.tk_tk]; exact .en)
   ·
    refine .skip (TQ.then (.seq (.region (.v (.move rfl) (.v (.move rfl) (.v (.move rfl) (.call call99 (S_space_at) rfl .pk rfl (fun x53 hx53 => ?_))))))))
    refine .storeAll (us := [_, _]) sizeOf177 rfl rfl rfl rfl .up rfl ?_
    refine .v (.assign rfl) (.nil (TQ.then (.ret ?_)))
    exact .ret results164 (.agg isAgg177 sizeOf177 rfl .tk (by rfl) (by rfl) (.tmp rfl .nil)) (x18 + rdT (D.tk x18).mem true (tableD D sp).1 (vaI va)) (by have h4 := Classical.byContradiction h3; rw [findD_4 h1 h2 (fun c => c.elim (fun d => d h4.1) (fun d => d h4.2))]; rfl) (by have := rdT_le (M := (D.tk x18).mem) (s := true) (p := (tableD D sp).1) (o := vaI va); omega) (by simp only [Db.tk_tk]; exact .en)

theorem fo_177_0_WSpace : FieldOff prog 177 0 0 := FieldOff.of 174 1 underlying177 rfl sizeOf174 rfl
set_option maxHeartbeats 400000 in
theorem S_space_free {d m : Nat} {D : Db} {sp : Int} {va : W} : Spec prog 162 [ptr d, i64 sp, w32 va].toArray [DbA d m D] (fun x : Nat => x ≤ 3) (fun x => .tuple #[.agg #[rdV m (freeD D sp va), lyV m (freeD D sp va)], i64 (slotD D sp va)]) (fun x => [DbA d m (D.tk x)]) := by
 refine Spec.body func162 rfl ntmps162 rfl (fun σ R => ?_)
 refine .seq (.region (.alloc zeroValue177 rfl rfl (fun b6 => ?_)))
 refine .v (.assign rfl) (.nil (TQ.then (.seq (.region (.v (.move rfl) (.v (.move rfl) (.v (.move rfl) (.call call164 (S_space_find) rfl .pk rfl (fun x14 hx14 => ?_)))))))))
 refine .v (.move rfl) (.v (.extract rfl rfl) (.v (.extract rfl rfl) (.alloc zeroValue177 rfl rfl (fun b8 => ?_))))
 refine .storeAll (us := [rdV m (findD D sp va), lyV m (findD D sp va)]) sizeOf177 rfl rfl plc_cells rfl .up rfl ?_
 refine .v (.assign rfl) (.nil (TQ.then (.seq (.seq (.region (.v (.move rfl) (.v (.neq rfl rfl) (.nil (TQ.then ?_)))))))))
 first | refine .cond_dec rfl (fun h1 => ?_) (fun h1 => ?_) | refine .cond rfl (fun h1 => ?_) (fun h1 => ?_)
 ·
  refine .seq (.region (.v (.build (cs := [_, _]) zeroValue177 pl_177_WSpace rfl rfl) ?_))
  refine .v (.move rfl) (.storeAll (us := [_, _]) sizeOf177 rfl rfl rfl rfl .up rfl ?_)
  refine .v (.assign rfl) (.nil (TQ.then (.ret (.then_ret ?_))))
  exact .ret results162 (.agg isAgg177 sizeOf177 rfl .tk (by rfl) (by rfl) (.tmp rfl .nil)) x14 (by rw [freeD_1 (by rw [slotD_1 h1]; exact h1), slotD_1 h1, rdV_err (f := ⟨0, 0, (findD D sp va).err⟩) h1, lyV_err (f := ⟨0, 0, (findD D sp va).err⟩) h1]; rfl) (Nat.le_trans hx14 (by decide)) .en
 ·
  rw [rdV_ok h1, lyV_ok h1]
  refine .skip (TQ.then (.seq (.seq (.region (.v (.field fo_177_0_WSpace rfl) (.v (.load isAgg174 rfl .tk (by rfl)) ?_))))))
  refine .callV (fs := [.agg [ptr m, i64 ((findD D sp va).page), i64 ((findD D sp va).j)].toArray]) (cs := []) rfl call131 rfl (S_space_cell_read (d := d) (D := D.tk x14)) .pk rfl (fun x23 hx23 => ?_)
  rw [Db.tk_pk]
  refine .v (.neq32 (b := 0#32) rfl rfl) ?_
  refine .nil (TQ.then ?_)
  first | refine .cond_dec rfl (fun h2 => ?_) (fun h2 => ?_) | refine .cond rfl (fun h2 => ?_) (fun h2 => ?_)
  ·
   refine .seq (.region (.v (.build (cs := [_, _]) zeroValue177 pl_177_WSpace rfl rfl) ?_))
   refine .storeAll (us := [_, _]) sizeOf177 rfl rfl rfl rfl .up rfl ?_
   refine .v (.assign rfl) (.nil (TQ.then (.ret (.then_ret ?_))))
   exact .ret results162 (.agg isAgg177 sizeOf177 rfl .tk (by rfl) (by rfl) (.tmp rfl .nil)) (x14 + rdT (D.tk x14).mem true (findD D sp va).page (findD D sp va).j) (by rw [freeD_1 (by rw [slotD_2 h1 h2]; decide), slotD_2 h1 h2]; rfl) (Nat.add_le_add hx14 rdT_le) (by simp only [Db.tk_tk]; exact .en)
  ·
   refine .skip (TQ.then (.seq (.region (.v (.loadAgg (vs := [_, _]) isAgg177 sizeOf177 rfl .tk (by rfl) (by rfl)) ?_))))
   refine .storeAll (us := [_, _]) sizeOf177 rfl rfl rfl rfl .up rfl ?_
   refine .v (.assign rfl) (.nil (TQ.then (.ret ?_)))
   exact .ret results162 (.agg isAgg177 sizeOf177 rfl .tk (by rfl) (by rfl) (.tmp rfl .nil)) (x14 + rdT (D.tk x14).mem true (findD D sp va).page (findD D sp va).j) (by rw [freeD_2 (by rw [slotD_3 h1 h2]; decide), slotD_3 h1 h2, rdV_ok h1, lyV_ok h1]; rfl) (Nat.add_le_add hx14 rdT_le) (by simp only [Db.tk_tk]; exact .en)

set_option maxHeartbeats 400000 in
theorem S_space_Slot {d m : Nat} {D : Db} {sp : Int} {va : W} : Spec prog 139 [ptr d, i64 sp, w32 va].toArray [DbA d m D] (fun x : Nat => x ≤ 3) (fun x => i64 (slotD D sp va)) (fun x => [DbA d m (D.tk x)]) := by
 refine Spec.body func139 rfl ntmps139 rfl (fun σ R => ?_)
 refine .seq (.region (.v (.assign rfl) (.nil (TQ.then (.seq (.region (.v (.move rfl) (.v (.move rfl) (.v (.move rfl) (.call call162 (S_space_free) rfl .pk rfl (fun x13 hx13 => ?_)))))))))))
 refine .v (.move rfl) (.v (.extract rfl rfl) (.v (.extract rfl rfl) (.alloc zeroValue177 rfl rfl (fun b7 => ?_))))
 refine .storeAll (us := [rdV m (freeD D sp va), lyV m (freeD D sp va)]) sizeOf177 rfl rfl plc_cells rfl .up rfl ?_
 refine .v (.assign rfl) (.nil (TQ.then (.seq (.region (.v (.move rfl) (.v (.assign rfl) (.nil (TQ.then (.ret ?_)))))))))
 exact .ret results139 (.tmp rfl .nil) x13 rfl hx13 .en

theorem fo_177_1_WSpace : FieldOff prog 177 1 1 := FieldOff.of 175 1 underlying177 rfl sizeOf175 rfl
set_option maxHeartbeats 400000 in
theorem S_space_Put {d m : Nat} {D : Db} {sp : Int} {va : W} {z : PMap} : Spec prog 140 [ptr d, i64 sp, w32 va, z.val].toArray [DbA d m D] (fun x : Nat => x ≤ 3) (fun x => i64 (putD D sp va z).1) (fun x => [DbA d m (putD (D.tk x) sp va z).2]) := by
 refine Spec.body func140 rfl ntmps140 rfl (fun σ R => ?_)
 refine .seq (.region (.box (vs := [_, _, _, _]) rfl rfl rfl (fun b7 => ?_)))
 refine .v (.assign rfl) (.nil (TQ.then (.seq (.region (.v (.move rfl) (.v (.move rfl) (.v (.move rfl) (.call call162 (S_space_free) rfl .pk rfl (fun x16 hx16 => ?_)))))))))
 refine .v (.move rfl) (.v (.extract rfl rfl) (.v (.extract rfl rfl) (.alloc zeroValue177 rfl rfl (fun b9 => ?_))))
 refine .storeAll (us := [rdV m (freeD D sp va), lyV m (freeD D sp va)]) sizeOf177 rfl rfl plc_cells rfl .up rfl ?_
 refine .v (.assign rfl) (.nil (TQ.then (.seq (.seq (.region (.v (.move rfl) (.v (.neq rfl rfl) (.nil (TQ.then ?_)))))))))
 first | refine .cond_dec rfl (fun h1 => ?_) (fun h1 => ?_) | refine .cond rfl (fun h1 => ?_) (fun h1 => ?_)
 ·
  refine .seq (.region (.v (.move rfl) (.v (.assign rfl) (.nil (TQ.then (.ret (.then_ret ?_)))))))
  exact .ret results140 (.tmp rfl .nil) x16 (by rw [putD_1 h1]; rfl) hx16 (by rw [putD_1 (by rw [slotD_tk]; exact h1)]; exact .en)
 ·
  rw [rdV_ok (by rw [freeD_err]; exact h1), lyV_ok (by rw [freeD_err]; exact h1), freeD_2 h1]
  refine .skip (TQ.then (.seq (.region (.v (.loadAgg (vs := [_, _, _, _]) isAgg224 sizeOf224 rfl .tk (by rfl) (by rfl)) ?_))))
  refine .call call163 (S_walk_Second (x := z)) rfl .pk rfl (fun x24 hx24 => ?_)
  refine .v (.move rfl) (.v (.extract rfl rfl) (.v (.extract rfl rfl) (.v (.assign rfl) (.v (.assign rfl) (.nil (TQ.then (.seq (.seq (.region (.v (.move rfl) (.v (.neq rfl rfl) (.nil (TQ.then ?_)))))))))))))
  first | refine .cond_dec rfl (fun h2 => ?_) (fun h2 => ?_) | refine .cond rfl (fun h2 => ?_) (fun h2 => ?_)
  ·
   refine .seq (.region (.v (.move rfl) (.v (.assign rfl) (.nil (TQ.then (.ret (.then_ret ?_)))))))
   exact .ret results140 (.tmp rfl .nil) x16 (by rw [putD_2 h1 h2]; rfl) hx16 (by rw [putD_2 (by rw [slotD_tk]; exact h1) h2]; exact .en)
  ·
   refine .skip (TQ.then (.seq (.region (.v (.field fo_177_1_WSpace rfl) (.v (.load isAgg175 rfl .tk (by rfl)) ?_)))))
   refine .v (.move rfl) (.callV (fs := [.agg [ptr m, i64 ((findD D sp va).page), i64 ((findD D sp va).j)].toArray]) (cs := []) rfl call132 rfl (S_space_cell_lay (d := d) (D := D.tk x16) (v := (second z).1)) .pk rfl (fun x33 hx33 => ?_))
   refine .nil (TQ.then (.seq (.region (.v (.assign rfl) (.nil (TQ.then (.ret ?_)))))))
   exact .ret results140 (.tmp rfl .nil) x16 (by rw [putD_3 h1 h2]; rfl) hx16 (by rw [putD_3 (by rw [slotD_tk]; exact h1) h2, findD_tk]; exact .en)

theorem fo_224_0_WSpace : FieldOff prog 224 0 0 := FieldOff.of 39 2 underlying224 rfl sizeOf39 rfl
theorem pl_224_WSpace : Places prog 224 [(0, 2), (2, 1), (3, 1)] := ⟨_, underlying224, fun w => by simp [sizeOf4, sizeOf39]⟩
set_option maxHeartbeats 400000 in
theorem S_space_mapped {d m : Nat} {D : Db} {w : W} : Spec prog 165 [ptr d, w32 w].toArray [DbA d m D] (fun _ : Unit => True) (fun _ => .tuple #[(mappedD D w).1.val, i64 (mappedD D w).2]) (fun _ => [DbA d m D]) := by
 refine Spec.body func165 rfl ntmps165 rfl (fun σ R => ?_)
 refine .seq (.region (.alloc zeroValue224 rfl rfl (fun b4 => ?_)))
 refine .v (.assign rfl) (.nil (TQ.then (.seq (.region (.v (.move rfl) (.call call175 (S_walk_ParseSecond) rfl .pk rfl (fun x10 hx10 => ?_)))))))
 refine .v (.move rfl) (.v (.extract rfl rfl) (.v (.extract rfl rfl) (.alloc zeroValue224 rfl rfl (fun b6 => ?_))))
 refine .storeAll (us := [_, _, _, _]) sizeOf224 rfl rfl rfl rfl .up rfl ?_
 refine .v (.assign rfl) (.nil (TQ.then (.seq (.seq (.region (.v (.move rfl) (.v (.neq rfl rfl) (.nil (TQ.then ?_)))))))))
 first | refine .cond_dec rfl (fun h1 => ?_) (fun h1 => ?_) | refine .cond rfl (fun h1 => ?_) (fun h1 => ?_)
 ·
  refine .seq (.region (.v (.build (cs := [_, _, _, _]) zeroValue224 pl_224_WSpace rfl rfl) ?_))
  refine .v (.move rfl) (.storeAll (us := [_, _, _, _]) sizeOf224 rfl rfl rfl rfl .up rfl ?_)
  refine .v (.assign rfl) (.nil (TQ.then (.ret (.then_ret ?_))))
  exact .ret results165 (.agg isAgg224 sizeOf224 rfl .tk (by rfl) (by rfl) (.tmp rfl .nil)) () (by rw [mappedD_1 h1]; rfl) trivial .en
 ·
  refine .skip (TQ.then (.seq (.seq (.draw (H := [.row b6 _ _]) (.q 0 (.q 2 (.q 3 (.e 1 (.e 4 (.q 5 .done)))))) (by kernel_rfl) .pk (by kernel_rfl) (by kernel_rfl) (by kernel_rfl) ?_))))
  refine .v rfl (.move rfl) (.v rfl (.field fo_224_0_WSpace rfl) (.v rfl (.loadAgg (vs := [_, _]) isAgg39 sizeOf39 rfl .tk (by rfl) (by rfl)) ?_))
  refine .eff rfl (fun fu_ li_ hk_ hs_ hl_ => ?_)
  refine .call call130 (S_MemoryD) rfl .pk rfl (fun x18 hx18 => ?_)
  refine .nil (TS.back hk_ hs_ hl_ .pk ?_)
  refine .eff rfl (fun fu_ li_ hk_ hs_ hl_ => ?_)
  refine .call call176 (S_HasD) rfl .pk rfl (fun x21 hx21 => ?_)
  refine .nil (TS.back hk_ hs_ hl_ .pk ?_)
  refine .v rfl (by first | exact Val.not_dec rfl | exact Val.not rfl) ?_
  refine .done (TQ.then ?_)
  first | refine .cond_dec rfl (fun h2 => ?_) (fun h2 => ?_) | refine .cond rfl (fun h2 => ?_) (fun h2 => ?_)
  ·
   refine .seq (.region (.v (.build (cs := [_, _, _, _]) zeroValue224 pl_224_WSpace rfl rfl) ?_))
   refine .storeAll (us := [_, _, _, _]) sizeOf224 rfl rfl rfl rfl .up rfl ?_
   refine .v (.assign rfl) (.nil (TQ.then (.ret (.then_ret ?_))))
   exact .ret results165 (.agg isAgg224 sizeOf224 rfl .tk (by rfl) (by rfl) (.tmp rfl .nil)) () (by rw [mappedD_2 h1 h2]; rfl) trivial .en
  ·
   refine .skip (TQ.then (.seq (.region (.v (.loadAgg (vs := [_, _, _, _]) isAgg224 sizeOf224 rfl .tk (by rfl) (by rfl)) ?_))))
   refine .storeAll (us := [_, _, _, _]) sizeOf224 rfl rfl rfl rfl .up rfl ?_
   refine .v (.assign rfl) (.nil (TQ.then (.ret ?_)))
   exact .ret results165 (.agg isAgg224 sizeOf224 rfl .tk (by rfl) (by rfl) (.tmp rfl .nil)) () (by rw [mappedD_3 h1 (Classical.byContradiction h2)]; rfl) trivial .en

set_option maxHeartbeats 400000 in
theorem S_space_At {d m : Nat} {D : Db} {sp : Int} {va : W} : Spec prog 141 [ptr d, i64 sp, w32 va].toArray [DbA d m D] (fun x : Nat => x ≤ 3) (fun x => .tuple #[(atD D sp va).1.val, i64 (atD D sp va).2]) (fun x => [DbA d m (D.tk x)]) := by
 refine Spec.body func141 rfl ntmps141 rfl (fun σ R => ?_)
 refine .seq (.region (.alloc zeroValue224 rfl rfl (fun b6 => ?_)))
 refine .v (.assign rfl) (.nil (TQ.then (.seq (.region (.v (.move rfl) (.v (.move rfl) (.v (.move rfl) (.call call164 (S_space_find) rfl .pk rfl (fun x14 hx14 => ?_)))))))))
 refine .v (.move rfl) (.v (.extract rfl rfl) (.v (.extract rfl rfl) (.alloc zeroValue177 rfl rfl (fun b8 => ?_))))
 refine .storeAll (us := [rdV m (findD D sp va), lyV m (findD D sp va)]) sizeOf177 rfl rfl plc_cells rfl .up rfl ?_
 refine .v (.assign rfl) (.nil (TQ.then (.seq (.seq (.region (.v (.move rfl) (.v (.neq rfl rfl) (.nil (TQ.then ?_)))))))))
 first | refine .cond_dec rfl (fun h1 => ?_) (fun h1 => ?_) | refine .cond rfl (fun h1 => ?_) (fun h1 => ?_)
 ·
  refine .seq (.region (.v (.build (cs := [_, _, _, _]) zeroValue224 pl_224_WSpace rfl rfl) ?_))
  refine .v (.move rfl) (.storeAll (us := [_, _, _, _]) sizeOf224 rfl rfl rfl rfl .up rfl ?_)
  refine .v (.assign rfl) (.nil (TQ.then (.ret (.then_ret ?_))))
  exact .ret results141 (.agg isAgg224 sizeOf224 rfl .tk (by rfl) (by rfl) (.tmp rfl .nil)) x14 (by rw [atD_1 h1]; rfl) (Nat.le_trans hx14 (by decide)) .en
 ·
  rw [rdV_ok h1, lyV_ok h1]
  refine .skip (TQ.then (.seq (.region (.v (.move rfl) (.v (.field fo_177_0_WSpace rfl) (.v (.load isAgg174 rfl .tk (by rfl)) ?_))))))
  refine .callV (fs := [.agg [ptr m, i64 ((findD D sp va).page), i64 ((findD D sp va).j)].toArray]) (cs := []) rfl call131 rfl (S_space_cell_read (d := d) (D := D.tk x14)) .pk rfl (fun x24 hx24 => ?_)
  rw [Db.tk_pk, Db.tk_tk]
  refine .call call165 (S_space_mapped) rfl .pk rfl (fun x25 hx25 => ?_)
  refine .v (.extract rfl rfl) (.v (.extract rfl rfl) (.storeAll (us := [_, _, _, _]) sizeOf224 rfl rfl rfl rfl .up rfl ?_))
  refine .v (.assign rfl) (.nil (TQ.then (.ret ?_)))
  exact .ret results141 (.agg isAgg224 sizeOf224 rfl .tk (by rfl) (by rfl) (.tmp rfl .nil)) (x14 + rdT (D.tk x14).mem true (findD D sp va).page (findD D sp va).j) (by rw [mappedD_tk, atD_ok h1]; rfl) (Nat.add_le_add hx14 rdT_le) .en

set_option maxHeartbeats 400000 in
theorem S_space_Cut {d m : Nat} {D : Db} {sp : Int} {va : W} : Spec prog 142 [ptr d, i64 sp, w32 va].toArray [DbA d m D] (fun x : Nat => x ≤ 3) (fun x => i64 (cutD D sp va).1) (fun x => [DbA d m (cutD (D.tk x) sp va).2]) := by
 refine Spec.body func142 rfl ntmps142 rfl (fun σ R => ?_)
 refine .seq (.region (.v (.assign rfl) (.nil (TQ.then (.seq (.region (.v (.move rfl) (.v (.move rfl) (.v (.move rfl) (.call call164 (S_space_find) rfl .pk rfl (fun x13 hx13 => ?_)))))))))))
 refine .v (.move rfl) (.v (.extract rfl rfl) (.v (.extract rfl rfl) (.alloc zeroValue177 rfl rfl (fun b7 => ?_))))
 refine .storeAll (us := [rdV m (findD D sp va), lyV m (findD D sp va)]) sizeOf177 rfl rfl plc_cells rfl .up rfl ?_
 refine .v (.assign rfl) (.nil (TQ.then (.seq (.seq (.region (.v (.move rfl) (.v (.neq rfl rfl) (.nil (TQ.then ?_)))))))))
 first | refine .cond_dec rfl (fun h1 => ?_) (fun h1 => ?_) | refine .cond rfl (fun h1 => ?_) (fun h1 => ?_)
 ·
  refine .seq (.region (.v (.move rfl) (.v (.assign rfl) (.nil (TQ.then (.ret (.then_ret ?_)))))))
  exact .ret results142 (.tmp rfl .nil) x13 (by rw [cutD_1 h1]; rfl) (Nat.le_trans hx13 (by decide)) (by rw [cutD_1 (by rw [findD_tk]; exact h1)]; exact .en)
 ·
  rw [rdV_ok h1, lyV_ok h1]
  refine .skip (TQ.then (.seq (.seq (.region (.v (.field fo_177_0_WSpace rfl) (.v (.load isAgg174 rfl .tk (by rfl)) ?_))))))
  refine .callV (fs := [.agg [ptr m, i64 ((findD D sp va).page), i64 ((findD D sp va).j)].toArray]) (cs := []) rfl call131 rfl (S_space_cell_read (d := d) (D := D.tk x13)) .pk rfl (fun x21 hx21 => ?_)
  rw [Db.tk_pk, Db.tk_tk]
  refine .v (.eql32 (b := 0#32) rfl rfl) ?_
  refine .nil (TQ.then ?_)
  first | refine .cond_dec rfl (fun h2 => ?_) (fun h2 => ?_) | refine .cond rfl (fun h2 => ?_) (fun h2 => ?_)
  ·
   refine .seq (.region (.v (.assign rfl) (.nil (TQ.then (.ret (.then_ret ?_))))))
   exact .ret results142 (.tmp rfl .nil) (x13 + rdT (D.tk x13).mem true (findD D sp va).page (findD D sp va).j) (by rw [cutD_2 h1 h2]; rfl) (Nat.add_le_add hx13 rdT_le) (by rw [cutD_2 (by rw [findD_tk]; exact h1) (by rw [findD_tk, Db.tk_pk]; exact h2)]; exact .en)
  ·
   refine .skip (TQ.then (.seq (.region (.v (.field fo_177_1_WSpace rfl) (.v (.load isAgg175 rfl .tk (by rfl)) ?_)))))
   refine .callV (fs := [.agg [ptr m, i64 ((findD D sp va).page), i64 ((findD D sp va).j)].toArray]) (cs := []) rfl call132 rfl (S_space_cell_lay (d := d) (v := 0#32)) .pk rfl (fun x25 hx25 => ?_)
   refine .nil (TQ.then (.seq (.region (.v (.assign rfl) (.nil (TQ.then (.ret ?_)))))))
   exact .ret results142 (.tmp rfl .nil) (x13 + rdT (D.tk x13).mem true (findD D sp va).page (findD D sp va).j) (by rw [cutD_3 h1 h2]; rfl) (Nat.add_le_add hx13 rdT_le) (by rw [cutD_3 (by rw [findD_tk]; exact h1) (by rw [findD_tk, Db.tk_pk]; exact h2), findD_tk]; exact .en)

set_option maxHeartbeats 1000000 in
theorem S_space_AddTable {d m : Nat} {D : Db} {sp ix l2 : Int} : Spec prog 143 [ptr d, i64 sp, i64 ix, i64 l2].toArray [DbA d m D] (fun x : Nat => x ≤ 2) (fun x => i64 (addTableD D sp ix l2).1) (fun x => [DbA d m (addTableD (D.tk x) sp ix l2).2]) := by
 refine Spec.body func143 rfl ntmps143 rfl (fun σ R => ?_)
 refine .seq (.region (.v (.assign rfl) (.nil (TQ.then (.seq (.region (.v (.move rfl) (.v (.move rfl) (.call call75 (S_space_Table) rfl .pk rfl (fun x19 hx19 => ?_))))))))))
 refine .v (.move rfl) (.v (.extract rfl rfl) (.v (.extract rfl rfl) (.v (.assign rfl) (.v (.assign rfl) (.nil (TQ.then (.seq (.seq (.region (.v (.move rfl) (.v (.neq rfl rfl) (.nil (TQ.then ?_)))))))))))))
 first | refine .cond_dec rfl (fun h1 => ?_) (fun h1 => ?_) | refine .cond rfl (fun h1 => ?_) (fun h1 => ?_)
 ·
  refine .seq ?_
  skip
  refine .region (.v (.move rfl) (.v (.assign rfl) (.nil (TQ.then (.ret (.then_ret ?_))))))
  exact .ret results143 (.tmp rfl .nil) x19 (by rw [addT_1 h1]; rfl) (Nat.le_trans hx19 (by decide)) (by rw [addT_1 (by rw [tableD_tk]; exact h1)]; exact .en)
 ·
  have h1' : ¬ (tableD (D.tk x19) sp).2 ≠ 0 := by rw [tableD_tk]; exact h1
  refine .skip (TQ.then (.seq (.seq (.region (.v (.move rfl) (.v (.lss rfl rfl) (.v (.move rfl) ?_)))))))
  refine' TL.orG (k := 3) (dj := 27) (d := 30) rfl ?_ ?_ ?_
  rotate_left
  ·
   intro g30 hd
   first | replace g30 := of_decide_eq_false g30 | skip
   refine .want rfl rfl (.v (.move rfl) (.want rfl rfl (.v (.geq rfl rfl) (.v (.pick_false rfl rfl) (.nil ?_)))))
   exact .keep (Sub.cons rfl (Sub.push rfl (Sub.push rfl (Sub.push rfl (Sub.pushSame hd Sub.rfl')))))
  ·
   intro g30 hd
   refine .skip rfl rfl rfl (.skip rfl rfl rfl (.v (.pick_true rfl rfl) (.nil ?_)))
   exact .keep (Sub.cons rfl (Sub.push rfl (Sub.push rfl (Sub.push rfl (Sub.pushSame hd Sub.rfl')))))
  first | refine .boolOr ?_ | skip
  refine .nil (TQ.then ?_)
  first | refine .cond_dec rfl (fun h2 => ?_) (fun h2 => ?_) | refine .cond rfl (fun h2 => ?_) (fun h2 => ?_)
  ·
   have hix : ¬ (0 ≤ ix ∧ ix < 256) := by omega
   refine .seq (.region (.v (.assign rfl) (.nil (TQ.then (.ret (.then_ret ?_))))))
   exact .ret results143 (.tmp rfl .nil) x19 (by rw [addT_2 h1 hix]; rfl) (Nat.le_trans hx19 (by decide)) (by rw [addT_2 h1' hix]; exact .en)
  ·
   have hix : 0 ≤ ix ∧ ix < 256 := by omega
   refine .skip (TQ.then (.seq (.seq (.region (.v (.move rfl) (.v (.move rfl) (.call call74 (S_EntryD) rfl .pk rfl (fun x34 hx34 => ?_))))))))
   refine .v (.move rfl) (.v (.extract rfl rfl) (.v (.extract rfl rfl) (.alloc zeroValue107 rfl rfl (fun b11 => ?_))))
   refine .storeAll (us := [_, _, _, _, _]) sizeOf107 rfl rfl rfl rfl .up rfl ?_
   refine .v (.assign rfl) (.nil (TQ.then (.seq (.region (.v (.move rfl) (.v (.neq rfl rfl) (.nil (TQ.then ?_))))))))
   first | refine .cond_dec rfl (fun h3 => ?_) (fun h3 => ?_) | refine .cond rfl (fun h3 => ?_) (fun h3 => ?_)
   ·
    refine .seq (.region (.v (.assign rfl) (.nil (TQ.then (.ret (.then_ret ?_))))))
    exact .ret results143 (.tmp rfl .nil) x19 (by rw [addT_3 h1 hix (get_err h3)]; rfl) (Nat.le_trans hx19 (by decide)) (by rw [addT_3 h1' hix (get_err h3)]; exact .en)
   ·
    refine .skip (TQ.then (.seq (.seq (.region (.v (.move rfl) (.v (.move rfl) (.v (.move rfl) (.call call100 (S_space_owns) rfl .pk rfl (fun x42 hx42 => ?_)))))))))
    refine .v (by first | exact Val.not_dec rfl | exact Val.not rfl) ?_
    refine .nil (TQ.then ?_)
    first | refine .cond_dec rfl (fun h4 => ?_) (fun h4 => ?_) | refine .cond rfl (fun h4 => ?_) (fun h4 => ?_)
    ·
     refine .seq (.region (.v (.assign rfl) (.nil (TQ.then (.ret (.then_ret ?_))))))
     exact .ret results143 (.tmp rfl .nil) x19 (by rw [addT_4 h1 hix (get_ok h3) h4]; rfl) (Nat.le_trans hx19 (by decide)) (by rw [addT_4 h1' hix (get_ok h3) h4]; exact .en)
    ·
     replace h4 := Classical.byContradiction h4
     refine .skip (TQ.then (.seq (.region (.v (.move rfl) (.v (.move rfl) (.v (.move rfl) (.call call99 (S_space_at) rfl .pk rfl (fun x47 hx47 => ?_))))))))
     refine .alloc zeroValue177 rfl rfl (fun b13 => ?_)
     refine .storeAll (us := [_, _]) sizeOf177 rfl rfl rfl rfl .up rfl ?_
     refine .nil (TQ.then (.seq (.seq (.region (.v (.field fo_177_0_WSpace rfl) (.v (.load isAgg174 rfl .tk (by rfl)) ?_))))))
     refine .callV (fs := [.agg [ptr m, i64 ((tableD D sp).1), i64 (ix)].toArray]) (cs := []) rfl call131 rfl (S_space_cell_read (d := d) (D := D.tk x19)) .pk rfl (fun x50 hx50 => ?_)
     rw [Db.tk_pk, Db.tk_tk]
     refine .v (.neq32 (b := 0#32) rfl rfl) ?_
     refine .nil (TQ.then ?_)
     first | refine .cond_dec rfl (fun h5 => ?_) (fun h5 => ?_) | refine .cond rfl (fun h5 => ?_) (fun h5 => ?_)
     ·
      refine .seq (.region (.v (.assign rfl) (.nil (TQ.then (.ret (.then_ret ?_))))))
      exact .ret results143 (.tmp rfl .nil) (x19 + rdT (D.tk x19).mem true (tableD D sp).1 ix) (by rw [addT_5 h1 hix (get_ok h3) h4 h5]; rfl) (Nat.add_le_add hx19 rdT_le) (by rw [addT_5 (D := D.tk (x19 + rdT (D.tk x19).mem true (tableD D sp).1 ix)) (by rw [tableD_tk]; exact h1) hix (get_ok h3) h4 (by rw [tableD_tk, Db.tk_pk]; exact h5)]; exact .en)
     ·
      refine .skip (TQ.then (.seq (.region (.v (.move rfl) (.call call166 (S_walk_First) rfl .pk rfl (fun x54 hx54 => ?_))))))
      refine .v (.move rfl) (.v (.extract rfl rfl) (.v (.extract rfl rfl) (.v (.assign rfl) (.v (.assign rfl) (.nil (TQ.then (.seq (.region (.v (.field fo_177_1_WSpace rfl) (.v (.load isAgg175 rfl .tk (by rfl)) ?_))))))))))
      refine .v (.move rfl) (.callV (fs := [.agg [ptr m, i64 ((tableD D sp).1), i64 (ix)].toArray]) (cs := []) rfl call132 rfl (S_space_cell_lay (d := d) (v := (first l2).1)) .pk rfl (fun x60 hx60 => ?_))
      refine .nil (TQ.then (.seq (.region (.v (.assign rfl) (.nil (TQ.then (.ret ?_)))))))
      exact .ret results143 (.tmp rfl .nil) (x19 + rdT (D.tk x19).mem true (tableD D sp).1 ix) (by rw [addT_6 h1 hix (get_ok h3) h4 h5]; rfl) (Nat.add_le_add hx19 rdT_le) (by rw [addT_6 (D := D.tk (x19 + rdT (D.tk x19).mem true (tableD D sp).1 ix)) (by rw [tableD_tk]; exact h1) hix (get_ok h3) h4 (by rw [tableD_tk, Db.tk_pk]; exact h5), tableD_tk]; exact .en)
end Go.Wd
