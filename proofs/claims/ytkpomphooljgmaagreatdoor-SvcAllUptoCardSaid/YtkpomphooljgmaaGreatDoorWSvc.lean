/- PROVED HERE: contracts of functions of the program, walked: each returns what the plain model says, for all items that its precondition names. No condition beyond each theorem's own. -/
import Derived.Test.YtkpomphooljgmaaGreatDoorProg
import Derived.Test.YtkpomphooljgmaaGreatDoorModel
import Derived.Test.YtkpomphooljgmaaGreatDoorPk
import Derived.Test.YtkpomphooljgmaaGreatDoorBase6
import Derived.Test.YtkpomphooljgmaaGreatDoorMSvc2
import Derived.Test.YtkpomphooljgmaaGreatDoorWSpace
import Derived.Test.YtkpomphooljgmaaGreatDoorWMac
namespace Go.Wd
open Go Go.Proofs Go.Proofs.Tryz
abbrev AskL (d : Nat) (sp tb : Int) (F : File) (K : S8) (v : Value) : List Value := [ptr d, i64 sp, i64 tb, w32 F.r0, w32 F.r1, w32 F.r2, w32 F.r3, w32 F.r4, w32 F.r5, w32 F.r6, w32 F.r7, w32 F.r8, w32 F.r9, w32 F.r10, w32 F.r11, w32 F.r12, w32 F.r13, w32 F.r14, w32 F.pc, .bool F.z, .bool F.n, .bool F.l, w32 K.a, w32 K.b, w32 K.c, w32 K.d, w32 K.e, w32 K.f, w32 K.g, w32 K.h, v]
abbrev AskR (c d : Nat) (sp tb : Int) (F : File) (K : S8) (v : Value) : Assn := .row c (AskL d sp tb F K v) 138
theorem DbA.ok {d m : Nat} {D : Db} {w : World} (h : Holds (DbA d m D) w) : D.ok := by
 obtain ⟨F, x, F1, F2, hf, _⟩ := h
 exact hf.1
theorem DbA.okT {P : Program} {n : Nat} {σ : Env} {R : Assn} {Q : Exit → Act → World → Prop} {s : Slots} {c : Code} {L L' : List Assn} {d m : Nat} {D : Db} (ht : Take L (DbA d m D) L') (h : D.ok → TC P n σ R c Q s L) : TC P n σ R c Q s L := fun a w ha hw => h (DbA.ok (hw.holds ht)) a w ha hw

set_option maxHeartbeats 400000 in
theorem S_svc_Cost {n : W} : Spec prog 10 [w32 n].toArray [] (fun _ : Unit => True) (fun _ => i64 (if 1 ≤ n.toNat ∧ n.toNat ≤ 5 then 64 else 1)) (fun _ => []) := by
 refine Spec.body func10 rfl ntmps10 rfl (fun σ R => ?_)
 refine .seq (.region (.v (.assign rfl) (.nil (TQ.then (.seq (.seq (.region (.v (.move rfl) (.nil (TQ.then (.block (.seq (.seq (.region (.v (.eql32 (b := 1#32) rfl rfl) ?_)))))))))))))))
 refine .v (.assign rfl) (.nil (TQ.then ?_))
 first | refine .cond_dec rfl (fun h1 => ?_) (fun h1 => ?_) | refine .cond rfl (fun h1 => ?_) (fun h1 => ?_)
 ·
  refine .skip (TQ.then ?_)
  first | refine .cond_dec rfl (fun h2 => ?_) (fun h2 => ?_) | refine .cond rfl (fun h2 => ?_) (fun h2 => ?_)
  ·
   refine .seq (.region (.v (.assign rfl) (.nil (TQ.then (.ret (.blk_ret (.then_ret ?_)))))))
   exact .ret results10 (.tmp rfl .nil) () (by first | (exfalso; contradiction) | exact cost_yes (n := n) (by simp [*]) | exact cost_no (n := n) (by simp [*])) trivial .en
  ·
   refine .skip (.blk_normal (TQ.then (.seq (.region (.v (.assign rfl) (.nil (TQ.then (.ret ?_))))))))
   exact .ret results10 (.tmp rfl .nil) () (by first | (exfalso; contradiction) | exact cost_yes (n := n) (by simp [*]) | exact cost_no (n := n) (by simp [*])) trivial .en
 ·
  refine .seq (.region (.v (.eql32 (b := 2#32) rfl rfl) ?_))
  refine .v (.assign rfl) (.nil (TQ.then ?_))
  first | refine .cond_dec rfl (fun h2 => ?_) (fun h2 => ?_) | refine .cond rfl (fun h2 => ?_) (fun h2 => ?_)
  ·
   refine .skip (TQ.then ?_)
   first | refine .cond_dec rfl (fun h3 => ?_) (fun h3 => ?_) | refine .cond rfl (fun h3 => ?_) (fun h3 => ?_)
   ·
    refine .seq (.region (.v (.assign rfl) (.nil (TQ.then (.ret (.blk_ret (.then_ret ?_)))))))
    exact .ret results10 (.tmp rfl .nil) () (by first | (exfalso; contradiction) | exact cost_yes (n := n) (by simp [*]) | exact cost_no (n := n) (by simp [*])) trivial .en
   ·
    refine .skip (.blk_normal (TQ.then (.seq (.region (.v (.assign rfl) (.nil (TQ.then (.ret ?_))))))))
    exact .ret results10 (.tmp rfl .nil) () (by first | (exfalso; contradiction) | exact cost_yes (n := n) (by simp [*]) | exact cost_no (n := n) (by simp [*])) trivial .en
  ·
   refine .seq (.region (.v (.eql32 (b := 3#32) rfl rfl) ?_))
   refine .v (.assign rfl) (.nil (TQ.then ?_))
   first | refine .cond_dec rfl (fun h3 => ?_) (fun h3 => ?_) | refine .cond rfl (fun h3 => ?_) (fun h3 => ?_)
   ·
    refine .skip (TQ.then ?_)
    first | refine .cond_dec rfl (fun h4 => ?_) (fun h4 => ?_) | refine .cond rfl (fun h4 => ?_) (fun h4 => ?_)
    ·
     refine .seq (.region (.v (.assign rfl) (.nil (TQ.then (.ret (.blk_ret (.then_ret ?_)))))))
     exact .ret results10 (.tmp rfl .nil) () (by first | (exfalso; contradiction) | exact cost_yes (n := n) (by simp [*]) | exact cost_no (n := n) (by simp [*])) trivial .en
    ·
     refine .skip (.blk_normal (TQ.then (.seq (.region (.v (.assign rfl) (.nil (TQ.then (.ret ?_))))))))
     exact .ret results10 (.tmp rfl .nil) () (by first | (exfalso; contradiction) | exact cost_yes (n := n) (by simp [*]) | exact cost_no (n := n) (by simp [*])) trivial .en
   ·
    refine .seq (.region (.v (.eql32 (b := 4#32) rfl rfl) ?_))
    refine .v (.assign rfl) (.nil (TQ.then ?_))
    first | refine .cond_dec rfl (fun h4 => ?_) (fun h4 => ?_) | refine .cond rfl (fun h4 => ?_) (fun h4 => ?_)
    ·
     refine .skip (TQ.then ?_)
     first | refine .cond_dec rfl (fun h5 => ?_) (fun h5 => ?_) | refine .cond rfl (fun h5 => ?_) (fun h5 => ?_)
     ·
      refine .seq (.region (.v (.assign rfl) (.nil (TQ.then (.ret (.blk_ret (.then_ret ?_)))))))
      exact .ret results10 (.tmp rfl .nil) () (by first | (exfalso; contradiction) | exact cost_yes (n := n) (by simp [*]) | exact cost_no (n := n) (by simp [*])) trivial .en
     ·
      refine .skip (.blk_normal (TQ.then (.seq (.region (.v (.assign rfl) (.nil (TQ.then (.ret ?_))))))))
      exact .ret results10 (.tmp rfl .nil) () (by first | (exfalso; contradiction) | exact cost_yes (n := n) (by simp [*]) | exact cost_no (n := n) (by simp [*])) trivial .en
    ·
     refine .region (.v (.eql32 (b := 5#32) rfl rfl) ?_)
     refine .v (.assign rfl) (.nil (TQ.then ?_))
     first | refine .cond_dec rfl (fun h5 => ?_) (fun h5 => ?_) | refine .cond rfl (fun h5 => ?_) (fun h5 => ?_)
     ·
      refine .seq (.region (.v (.assign rfl) (.nil (TQ.then (.ret (.blk_ret (.then_ret ?_)))))))
      exact .ret results10 (.tmp rfl .nil) () (by first | (exfalso; contradiction) | exact cost_yes (n := n) (by simp [*]) | exact cost_no (n := n) (by simp [*])) trivial .en
     ·
      refine .skip (.blk_normal (TQ.then (.seq (.region (.v (.assign rfl) (.nil (TQ.then (.ret ?_))))))))
      exact .ret results10 (.tmp rfl .nil) () (by first | (exfalso; contradiction) | exact cost_yes (n := n) (by simp [*]) | exact cost_no (n := n) (by simp [*])) trivial .en

theorem fo_136_0_WSvc : FieldOff prog 136 0 0 := FieldOff.of 52 1 underlying136 rfl sizeOf52 rfl
theorem fo_136_1_WSvc : FieldOff prog 136 1 1 := FieldOff.of 3 1 underlying136 rfl sizeOf3 rfl
theorem pl_39_WSvc : Places prog 39 [(0, 1), (1, 1)] := ⟨_, underlying39, fun w => by simp [sizeOf3, sizeOf4]⟩
set_option maxHeartbeats 400000 in
theorem S_svc_scene_read {c d m : Nat} {D : Db} {sp tb : Int} {F : File} {K : S8} {v : Value} {o : Int} : Spec prog 144 [ptr c, i64 o].toArray [DbA d m D, AskR c d sp tb F K v] (fun _ : Unit => True) (fun _ => w32 (D.pk sp o)) (fun _ => [DbA d m (D.tk (rdT D.mem true sp o)), AskR c d sp tb F K v]) := by
 refine Spec.body func144 rfl ntmps144 rfl (fun σ R => ?_)
 refine .seq (.region (.v (.assign (v := w32 0#32) rfl) (.nil (TQ.then (.seq (.draw (H := [.row c _ _]) (.q 0 (.q 1 (.q 2 (.q 3 (.q 5 (.q 6 (.q 7 (.q 8 (.q 9 (.q 10 (.e 4 (.e 11 (.q 12 (.q 13 (.q 14 (.q 15 (.q 16 .done))))))))))))))))) (by kernel_rfl) .pk (by kernel_rfl) (by kernel_rfl) (by kernel_rfl) ?_))))))
 refine .v rfl (.move rfl) (.v rfl (.nilCheck rfl) (.v rfl (.field fo_136_0_WSvc rfl) (.v rfl (.load isAgg52 rfl .tk (by rfl)) ?_)))
 refine .v rfl (.move rfl) (.v rfl (.nilCheck rfl) (.v rfl (.field fo_136_1_WSvc rfl) (.v rfl (.load isAgg3 rfl .tk (by rfl)) ?_)))
 refine .v rfl (.build (cs := [_, _]) zeroValue39 pl_39_WSvc rfl rfl) ?_
 refine .v rfl (.move rfl) (.eff rfl (fun fu_ li_ hk_ hs_ hl_ => ?_))
 refine .call call130 (S_MemoryD) rfl .pk rfl (fun x12 hx12 => ?_)
 refine .nil (TS.back hk_ hs_ hl_ .pk ?_)
 refine .eff rfl (fun fu_ li_ hk_ hs_ hl_ => ?_)
 refine .call call135 (S_ReadD) rfl .pk rfl (fun x19 hx19 => ?_)
 refine .nil (TS.back hk_ hs_ hl_ .pk ?_)
 refine .v rfl (.move rfl) (.v rfl (.extract rfl rfl) (.v rfl (.extract rfl rfl) (.v rfl (.assign rfl) (.v rfl (.assign rfl) (.done (TQ.then (.seq (.region (.v (.move rfl) (.v (.assign rfl) (.nil (TQ.then (.ret ?_)))))))))))))
 exact .ret results144 (.tmp rfl .nil) () rfl trivial .en

theorem fo_37_0_WSvc : FieldOff prog 37 0 0 := FieldOff.of 35 15 underlying37 rfl sizeOf35 rfl
theorem fo_136_3_WSvc : FieldOff prog 136 3 3 := FieldOff.of 37 19 underlying136 rfl sizeOf37 rfl
set_option maxHeartbeats 400000 in
theorem S_svc_scene_lay {c d : Nat} {sp tb : Int} {F : File} {K : S8} {v : Value} {s : S8} : Spec prog 108 [ptr c, s.val].toArray [AskR c d sp tb F K v] (fun _ : Unit => True) (fun _ => .tuple #[]) (fun _ => [AskR c d sp tb (F.lay s) K v]) := by
 refine Spec.body func108 rfl ntmps108 rfl (fun σ R => ?_)
 refine .seq (.region (.box (vs := [_, _, _, _, _, _, _, _]) rfl rfl rfl (fun b3 => ?_)))
 refine .nil (TQ.then (.draw (H := []) (.q 0 (.q 1 (.q 2 (.q 3 (.q 4 (.q 5 (.e 6 .done))))))) (by kernel_rfl) .pk (by kernel_rfl) (by kernel_rfl) (by kernel_rfl) ?_))
 refine .v rfl (.move rfl) (.v rfl (.nilCheck rfl) (.v rfl (.field fo_136_3_WSvc rfl) (.v rfl (.field fo_37_0_WSvc rfl) (.v rfl (.sliceArrLH underlying35 sizeOf23 rfl rfl rfl (by decide) (by decide) (by decide)) ?_))))
 refine .v rfl (.sliceArr underlying24 sizeOf23 rfl) ?_
 refine .eff rfl (fun fu_ li_ hk_ hs_ hl_ => ?_)
 refine .copyRow (k := 8) (us := w32s s.ws) (new := AskL d sp tb (F.lay s) K v) underlying31 sizeOf23 rfl rfl rfl .tk rfl rfl w32s_cells .up rfl (by show 0 + 3 + 0 + (1 : Int).toNat * 1 + 8 ≤ 31; decide) rfl rfl ?_
 refine .nil (TS.back hk_ hs_ hl_ .pk ?_)
 refine .done ?_
 exact .ret0 (by first | exact .inl rfl | exact .inr rfl) rfl () rfl trivial .en

set_option maxHeartbeats 400000 in
theorem S_svc_scene_measurement {c d m : Nat} {D : Db} {sp tb : Int} {F : File} {K : S8} {v : Value} : Spec prog 109 [ptr c].toArray [DbA d m D, AskR c d sp tb F K v] (fun x : Nat => x ≤ 8) (fun x => (meas D sp).val) (fun x => [DbA d m (D.tk x), AskR c d sp tb F K v]) := by
 refine Spec.body func109 rfl ntmps109 rfl (fun σ R => ?_)
 refine .seq (.region (.alloc zeroValue24 rfl rfl (fun b2 => ?_)))
 refine .nil (TQ.then (.seq (.seq ?_)))
 obtain ⟨M, hM⟩ : ∃ M, meas D sp = M := ⟨_, rfl⟩
 rw [show [Value.int .u32 0, Value.int .u32 0, Value.int .u32 0, Value.int .u32 0, Value.int .u32 0, Value.int .u32 0, Value.int .u32 0, Value.int .u32 0] = w32s (M.ws.take 0 ++ List.replicate (M.ws.length - 0) 0) from rfl]
 refine .region (.v (.move rfl) (.nil (TQ.then (.block (.loop (X := {x : Nat × Nat // x.1 ≤ 8 ∧ x.2 ≤ x.1}) (s0 := [(0, _), (2, _)]) (fun x => [(4, i64 x.1.1)]) (fun x => [.row b2 (w32s (M.ws.take x.1.1 ++ List.replicate (M.ws.length - x.1.1) 0)) 24, DbA d m (D.tk x.1.2)]) (fun x => 8 - x.1.1) ⟨(0, 0), by decide, by decide⟩ .st .pk (fun x => ?_))))))
 refine .seq (.region (.v (.lss rfl rfl) (.nil (TQ.then (.seq ?_)))))
 first | refine .cond_dec rfl (fun h1 => ?_) (fun h1 => ?_) | refine .cond rfl (fun h1 => ?_) (fun h1 => ?_)
 ·
  obtain ⟨⟨i, k⟩, hi, hk⟩ := x
  dsimp only at hi hk h1 ⊢
  have hlt : i < 8 := by omega
  have hg : M.ws[i]'hlt = D.pk sp (3 + (i : Int)) := by subst hM; exact meas_at hlt
  have hr := rdT_le (M := (D.tk k).mem) (s := true) (p := sp) (o := 3 + (i : Int))
  refine .skip (TQ.then (.seq (.block (.seq (.region (.v (.move rfl) (.v (.assign rfl) (.nil (TQ.then (.region (.v (.move rfl) (.v (.move rfl) (.v (.move rfl) (.v (.add64 rfl rfl (by omega)) ?_))))))))))))))
  refine .call call144 (S_svc_scene_read (F := F) (K := K)) rfl .pk rfl (fun x11 hx11 => ?_)
  rw [Db.tk_pk, Db.tk_tk, ← hg]
  refine .v (.ixArr1 underlying24 sizeOf23 rfl rfl (by omega)) ?_
  refine .storeTo (new := w32s (M.ws.take (i + 1) ++ List.replicate (M.ws.length - (i + 1)) 0)) sizeOf23 rfl rfl rfl .up (by rw [show 0 + ((i : Nat) : Int).toNat = i by omega, ← fillTo_set (l := M.ws) hlt]; exact w32s_set) (by rw [w32s_length, List.length_append, List.length_take, List.length_replicate]; have : M.ws.length = 8 := rfl; omega) ?_
  refine .nil (.blk_normal (TQ.then (.region (.v (.add64 rfl rfl (by omega)) ?_))))
  refine .v (.move rfl) (.nil ?_)
  exact .next ⟨(i + 1, k + rdT (D.tk k).mem true sp (3 + (i : Int))), by dsimp only; omega, by dsimp only; omega⟩ (by dsimp only; omega) .st .en
 ·
  obtain ⟨⟨i, k⟩, hi, hk⟩ := x
  dsimp only at hi hk h1 ⊢
  obtain rfl : i = 8 := by omega
  rw [show M.ws.take 8 ++ List.replicate (M.ws.length - 8) 0 = M.ws from by rw [List.take_of_length_le (show M.ws.length ≤ 8 from Nat.le_refl _)]; show M.ws ++ [] = M.ws; rw [List.append_nil]]
  refine .exit (.then_exit (.then_exit (.blk_hit (TQ.then (.seq (.region (.v (.loadAgg (vs := [_, _, _, _, _, _, _, _]) isAgg24 sizeOf24 rfl .tk (by rfl) (by rfl)) ?_)))))))
  refine .storeAll (us := [_, _, _, _, _, _, _, _]) sizeOf24 rfl rfl rfl rfl .up rfl ?_
  refine .nil (TQ.then (.ret ?_))
  exact .ret results109 (.agg isAgg24 sizeOf24 rfl .tk (by rfl) (by rfl) .nil) k (by rw [hM]; rfl) hk .en

theorem fo_107_0_WSvc : FieldOff prog 107 0 0 := FieldOff.of 64 1 underlying107 rfl sizeOf64 rfl
theorem fo_107_1_WSvc : FieldOff prog 107 1 1 := FieldOff.of 3 1 underlying107 rfl sizeOf3 rfl
set_option maxHeartbeats 400000 in
theorem S_svc_scene_page {c d m : Nat} {D : Db} {sp tb : Int} {F : File} {K : S8} {v : Value} {t : Int} : Spec prog 137 [ptr c, i64 t].toArray [DbA d m D, AskR c d sp tb F K v] (fun _ : Unit => True) (fun _ => i64 (pgV D sp F.r1 t)) (fun _ => [DbA d m D, AskR c d sp tb F K v]) := by
 refine Spec.body func137 rfl ntmps137 rfl (fun σ R => ?_)
 refine .seq (.region (.v (.assign rfl) (.nil (TQ.then (.seq (DbA.okT .tk (fun hD => ?_)))))))
 have hl := hD.pages.2
 have h0 := F.r1.isLt
 refine .region (.v (.move rfl) (.v (.nilCheck rfl) (.v (.field fo_136_3_WSvc rfl) (.v (.field fo_37_0_WSvc rfl) (.v (.ixArr1 underlying35 sizeOf23 rfl rfl (by omega)) ?_)))))
 refine .v (.load isAgg23 rfl .tk (by rfl)) ?_
 refine .v (.assign rfl) (.nil (TQ.then (.seq (.seq (.region (.v (.move rfl) (.v (.conv_32_u64 underlying23 underlying171 rfl) ?_)))))))
 refine .v (.move rfl) (.v (.nilCheck rfl) (.v (.field fo_136_0_WSvc rfl) (.v (.load isAgg52 rfl .tk (by rfl)) ?_)))
 refine .call call91 (S_PagesD) rfl .pk rfl (fun x20 hx20 => ?_)
 refine .v (.conv_n64_u64 underlying3 underlying171 rfl (by omega)) ?_
 refine .v (.geq rfl rfl) (.nil (TQ.then ?_))
 first | refine .cond_dec rfl (fun h1 => ?_) (fun h1 => ?_) | refine .cond rfl (fun h1 => ?_) (fun h1 => ?_)
 ·
  refine .seq (.region (.v (.assign rfl) (.nil (TQ.then (.ret (.then_ret ?_))))))
  exact .ret results137 (.tmp rfl .nil) () (by rw [pgV_1 h1]; rfl) trivial .en
 ·
  refine .skip (TQ.then (.seq (.region (.v (.move rfl) (.v (.nilCheck rfl) (.v (.field fo_136_0_WSvc rfl) (.v (.load isAgg52 rfl .tk (by rfl)) ?_)))))))
  refine .v (.move rfl) (.v (.conv_32_64 underlying23 underlying3 rfl) ?_)
  refine .call call74 (S_EntryD) rfl .pk rfl (fun x30 hx30 => ?_)
  refine .v (.move rfl) (.v (.extract rfl rfl) (.v (.extract rfl rfl) (.alloc zeroValue107 rfl rfl (fun b6 => ?_))))
  refine .storeAll (us := [_, _, _, _, _]) sizeOf107 rfl rfl rfl rfl .up rfl ?_
  refine .v (.assign rfl) (.nil (TQ.then (.seq (.seq (.draw (H := [.row b6 _ _, .row c _ _]) (.q 0 (.q 1 (.q 2 (.q 3 (.q 4 (.q 5 (.q 6 (.q 7 (.q 8 (.q 9 (.q 10 (.q 11 (.q 12 .done))))))))))))) (by kernel_rfl) .pk (by kernel_rfl) (by kernel_rfl) (by kernel_rfl) ?_)))))
  refine .v rfl (.field fo_107_0_WSvc rfl) (.v rfl (.load isAgg64 rfl .tk (by rfl)) ?_)
  refine .v rfl (.move rfl) (.v rfl (.neq rfl rfl) (.v rfl (.move rfl) ?_))
  first | refine .part_dec (dj := 37) rfl (fun h2 => ?_) (fun h2 => ?_) | refine .part (dj := 37) rfl (fun h2 => ?_) (fun h2 => ?_)
  ·
   refine .skip rfl rfl rfl rfl (.skip rfl rfl rfl rfl (.skip rfl rfl rfl rfl (.skip rfl rfl rfl rfl (.skip rfl rfl rfl rfl (.skip rfl rfl rfl rfl (.skip rfl rfl rfl rfl (.v rfl (.pick_true rfl rfl) (.done (TQ.then (.cond_true rfl (.seq (.region (.v (.assign rfl) (.nil (TQ.then (.ret (.then_ret ?_)))))))))))))))))
   exact .ret results137 (.tmp rfl .nil) () (by rw [pgV_2 (.inl h2)]; rfl) trivial .en
  ·
   refine .want rfl rfl rfl (.field fo_107_1_WSvc rfl) rfl ?_
   refine .want rfl rfl rfl (.load isAgg3 rfl .tk (by rfl)) rfl ?_
   refine .want rfl rfl rfl (.move rfl) rfl ?_
   refine .want rfl rfl rfl (.nilCheck rfl) rfl ?_
   refine .want rfl rfl rfl (.field fo_136_1_WSvc rfl) rfl ?_
   refine .want rfl rfl rfl (.load isAgg3 rfl .tk (by rfl)) rfl ?_
   refine .want rfl rfl rfl (.neq rfl rfl) rfl ?_
   refine .v rfl (.pick_false rfl rfl) (.done (TQ.then ?_))
   first | refine .cond_dec rfl (fun h3 => ?_) (fun h3 => ?_) | refine .cond rfl (fun h3 => ?_) (fun h3 => ?_)
   ·
    refine .seq (.region (.v (.assign rfl) (.nil (TQ.then (.ret (.then_ret ?_))))))
    exact .ret results137 (.tmp rfl .nil) () (by rw [pgV_2 (.inr h3)]; rfl) trivial .en
   ·
    refine .skip (TQ.then (.seq (.region (.v (.move rfl) (.v (.conv_32_64 underlying23 underlying3 rfl) ?_)))))
    refine .v (.assign rfl) (.nil (TQ.then (.ret ?_)))
    exact .ret results137 (.tmp rfl .nil) () (by rw [pgV_3 h1 (fun c => c.elim h2 h3)]; rfl) trivial .en

theorem fo_138_0_WSvc : FieldOff prog 138 0 0 := FieldOff.of 136 22 underlying138 rfl sizeOf136 rfl
theorem fo_138_1_WSvc : FieldOff prog 138 1 22 := FieldOff.of 24 8 underlying138 rfl sizeOf24 rfl
set_option maxHeartbeats 400000 in
theorem S_svc_asked_attest {AK0 : Assn} {c d m : Nat} {D : Db} {sp tb : Int} {F : File} {K : S8} {v : Value} (hK0 : Tab AK0 0 := by assumption) : Spec prog 101 [ptr c].toArray [DbA d m D, AskR c d sp tb F K v, AK0] (fun x : Db => D.near x (attR K D sp F).db 8) (fun x => w32 (attR K D sp F).code) (fun x => [DbA d m x, AskR c d sp tb (attR K D sp F).f K v, AK0]) := by
 refine Spec.body func101 rfl ntmps101 rfl (fun σ R => ?_)
 refine .seq (.region (.v (.assign (v := w32 0#32) rfl) (.nil (TQ.then (.seq (.drawK (H := [.ex fun FF : File => .row c (AskL d sp tb FF K v) 138]) (.q 0 (.q 1 (.q 2 (.q 3 (.q 4 (.q 5 (.q 6 (.q 7 (.q 8 (.q 9 (.q 11 (.q 12 (.q 13 (.q 14 (.q 15 (.q 16 (.q 17 (.b 10 (.e 18 (.e 19 (.e 20 .done))) 18 (.e 10 (.e 19 (.e 20 .done))))))))))))))))))))) (by kernel_rfl) (Knows.exRow (l := fun FF : File => AskL d sp tb FF K v) _ .tk rfl) (by kernel_rfl) (by kernel_rfl) (by kernel_rfl) ?_))))))
 refine .v rfl (.move rfl) (.v rfl (.nilCheck rfl) (.v rfl (.field fo_138_0_WSvc rfl) (.v rfl (.move rfl) (.v rfl (.nilCheck rfl) (.v rfl (.field fo_138_1_WSvc rfl) (.v rfl (.loadAggEx (l := fun FF : File => AskL d sp tb FF K v) (vs := [w32 K.a, w32 K.b, w32 K.c, w32 K.d, w32 K.e, w32 K.f, w32 K.g, w32 K.h]) isAgg24 sizeOf24 rfl .tk (fun y => rfl) rfl) ?_))))))
 refine .v rfl (.move rfl) (.v rfl (.nilCheck rfl) (.v rfl (.field fo_138_0_WSvc rfl) (.v rfl (.move rfl) (.v rfl (.nilCheck rfl) (.v rfl (.field fo_138_0_WSvc rfl) (.v rfl (.field fo_136_3_WSvc rfl) (.v rfl (.field fo_37_0_WSvc rfl) (.v rfl (.sliceArrLH underlying35 sizeOf23 rfl rfl rfl (by decide) (by decide) (by decide)) ?_))))))))
 refine .v rfl (.toArrPtr underlying24 rfl (by decide)) ?_
 refine .both rfl rfl (fun fu_ li_ hk_ hs_ hl_ => ?_) (fun fu_ li_ hk_ hs_ hl_ => ?_)
 ·
  refine .call call109 (S_svc_scene_measurement) rfl .pk rfl (fun x13 hx13 => ?_)
  refine .nil (TS.backK hk_ hs_ hl_ (Knows.exRow (l := fun FF : File => AskL d sp tb FF K v) _ .tk rfl) ?_)
  refine .eff rfl (fun fu_ li_ hk_ hs_ hl_ => ?_)
  refine .v (.loadAgg (vs := [_, _, _, _, _, _, _, _]) isAgg24 sizeOf24 rfl .tk (by rfl) (by rfl)) ?_
  refine .nil (TS.backK hk_ hs_ hl_ (Knows.exRow (l := fun FF : File => AskL d sp tb FF K v) _ .tk rfl) ?_)
  refine .eff rfl (fun fu_ li_ hk_ hs_ hl_ => ?_)
  refine .call call133 (S_attest_Tag (K := K) (M := meas D sp) (D := F.data)) rfl .pk rfl (fun x22 hx22 => ?_)
  refine .nil (TS.backK hk_ hs_ hl_ (Knows.exRow (l := fun FF : File => AskL d sp tb FF K v) _ .tk rfl) ?_)
  refine .eff rfl (fun fu_ li_ hk_ hs_ hl_ => ?_)
  refine .call call108 (S_svc_scene_lay (F := F) (K := K) (s := macW K.ws ((meas D sp).ws ++ F.data.ws))) rfl .pk rfl (fun x23 hx23 => ?_)
  refine .nil (TS.backK hk_ hs_ hl_ (Knows.exRow (l := fun FF : File => AskL d sp tb FF K v) _ .tk rfl) ?_)
  refine .done (TQ.then (.seq (.region (.v (.assign (v := w32 0#32) rfl) (.nil (TQ.then (.ret ?_)))))))
  exact .ret results101 (.tmp rfl .nil) (D.tk x13) rfl (by have h := Db.near.tk (Db.near.refl (D := D) (K := 0)) hx13; rwa [Nat.zero_add] at h) .en
 ·
  refine .v (.loadAgg (vs := [_, _, _, _, _, _, _, _]) isAgg24 sizeOf24 rfl .tk (by rfl) (by rfl)) ?_
  refine .nil (TS.backK hk_ hs_ hl_ (Knows.exRow (l := fun FF : File => AskL d sp tb FF K v) _ .tk rfl) ?_)
  refine .eff rfl (fun fu_ li_ hk_ hs_ hl_ => ?_)
  refine .call call109 (S_svc_scene_measurement) rfl .pk rfl (fun x13 hx13 => ?_)
  refine .nil (TS.backK hk_ hs_ hl_ (Knows.exRow (l := fun FF : File => AskL d sp tb FF K v) _ .tk rfl) ?_)
  refine .eff rfl (fun fu_ li_ hk_ hs_ hl_ => ?_)
  refine .call call133 (S_attest_Tag (K := K) (M := meas D sp) (D := F.data)) rfl .pk rfl (fun x22 hx22 => ?_)
  refine .nil (TS.backK hk_ hs_ hl_ (Knows.exRow (l := fun FF : File => AskL d sp tb FF K v) _ .tk rfl) ?_)
  refine .eff rfl (fun fu_ li_ hk_ hs_ hl_ => ?_)
  refine .call call108 (S_svc_scene_lay (F := F) (K := K) (s := macW K.ws ((meas D sp).ws ++ F.data.ws))) rfl .pk rfl (fun x23 hx23 => ?_)
  refine .nil (TS.backK hk_ hs_ hl_ (Knows.exRow (l := fun FF : File => AskL d sp tb FF K v) _ .tk rfl) ?_)
  refine .done (TQ.then (.seq (.region (.v (.assign (v := w32 0#32) rfl) (.nil (TQ.then (.ret ?_)))))))
  exact .ret results101 (.tmp rfl .nil) (D.tk x13) rfl (by have h := Db.near.tk (Db.near.refl (D := D) (K := 0)) hx13; rwa [Nat.zero_add] at h) .en

set_option maxHeartbeats 400000 in
theorem S_svc_calls_1 {c d m : Nat} {D : Db} {sp tb : Int} {F : File} {K : S8} {v : Value} : Spec prog 107 [ptr c].toArray [DbA d m D, AskR c d sp tb F K v] (fun x : Db => D.near x (selfR D sp F).db 8) (fun x => w32 (selfR D sp F).code) (fun x => [DbA d m x, AskR c d sp tb (selfR D sp F).f K v]) := by
 refine Spec.body func107 rfl ntmps107 rfl (fun σ R => ?_)
 refine .seq (.region (.v (.assign (v := w32 0#32) rfl) (.nil (TQ.then (.seq (.draw (H := []) (.q 0 (.q 1 (.q 2 (.q 3 (.q 4 (.q 5 (.e 6 (.e 7 .done)))))))) (by kernel_rfl) .pk (by kernel_rfl) (by kernel_rfl) (by kernel_rfl) ?_))))))
 refine .v rfl (.move rfl) (.v rfl (.nilCheck rfl) (.v rfl (.field fo_138_0_WSvc rfl) (.v rfl (.move rfl) (.v rfl (.nilCheck rfl) (.v rfl (.field fo_138_0_WSvc rfl) (.eff rfl (fun fu_ li_ hk_ hs_ hl_ => ?_)))))))
 refine .call call109 (S_svc_scene_measurement) rfl .pk rfl (fun x9 hx9 => ?_)
 refine .nil (TS.back hk_ hs_ hl_ .pk ?_)
 refine .eff rfl (fun fu_ li_ hk_ hs_ hl_ => ?_)
 refine .call call108 (S_svc_scene_lay (F := F) (K := K) (s := meas D sp)) rfl .pk rfl (fun x10 hx10 => ?_)
 refine .nil (TS.back hk_ hs_ hl_ .pk ?_)
 refine .done (TQ.then (.seq (.region (.v (.assign (v := w32 0#32) rfl) (.nil (TQ.then (.ret ?_)))))))
 exact .ret results107 (.tmp rfl .nil) (D.tk x9) rfl (by have h := Db.near.tk (Db.near.refl (D := D) (K := 0)) hx9; rwa [Nat.zero_add] at h) .en

theorem fo_136_2_WSvc : FieldOff prog 136 2 2 := FieldOff.of 3 1 underlying136 rfl sizeOf3 rfl
set_option maxHeartbeats 2000000 in
theorem S_svc_asked_verify {AK0 : Assn} {c d m : Nat} {D : Db} {sp tb : Int} {F : File} {K : S8} {v : Value} (hK0 : Tab AK0 0 := by assumption) : Spec prog 102 [ptr c].toArray [DbA d m D, AskR c d sp tb F K v, AK0] (fun x : Db => D.near x (verR K D tb F).db 72) (fun x => w32 (verR K D tb F).code) (fun x => [DbA d m x, AskR c d sp tb (verR K D tb F).f K v, AK0]) := by
 refine Spec.body func102 rfl ntmps102 rfl (fun σ R => ?_)
 refine .seq (.region (.v (.assign (v := w32 0#32) rfl) (.nil (TQ.then (.seq (.region (.alloc (zs := w32s (List.replicate 24 0)) zeroValue211 (by kernel_rfl) rfl (fun b3 => ?_))))))))
 refine .nil (TQ.then (.seq (.seq ?_)))
 rw [show (List.replicate 24 0 : List W) = (vL D tb F).take 0 ++ List.replicate ((vL D tb F).length - 0) 0 from by rw [vL_len]; rfl]
 have hvl := @vL_len D tb F
 refine .region (.v (.move rfl) (.nil (TQ.then (.block (.loop (X := {x : Nat × Db // x.1 ≤ 24 ∧ D.near x.2 D (3 * x.1) ∧ ∀ j, j < x.1 → (vT D tb F j).err = 0}) (s0 := [(0, _), (3, _)]) (fun x => [(8, i64 x.1.1)]) (fun x => [.row b3 (w32s ((vL D tb F).take x.1.1 ++ List.replicate ((vL D tb F).length - x.1.1) 0)) 211, DbA d m x.1.2]) (fun x => 24 - x.1.1) ⟨(0, D), Nat.zero_le _, .refl, fun j h => absurd h (Nat.not_lt_zero _)⟩ .st .pk (fun x => ?_))))))
 refine .seq (.region (.v (.lss rfl rfl) (.nil (TQ.then (.seq ?_)))))
 first | refine .cond_dec rfl (fun h1 => ?_) (fun h1 => ?_) | refine .cond rfl (fun h1 => ?_) (fun h1 => ?_)
 ·
  obtain ⟨⟨i, Y⟩, hi, hY, hj⟩ := x
  dsimp only at hi hY hj h1 ⊢
  have hlt : i < 24 := by omega
  have hg : (vL D tb F)[i]'(by omega) = vW D tb F i := vL_get _
  refine .skip (TQ.then (.seq (.block (.seq (.region (.v (.move rfl) (.v (.assign rfl) (.nil (TQ.then (.seq (.draw (H := [.row c _ _]) (.q 0 (.q 1 (.q 2 (.q 3 (.q 4 (.q 6 (.q 7 (.q 8 (.q 9 (.q 10 (.q 11 (.q 12 (.q 13 (.q 14 (.q 15 (.q 16 (.q 17 (.q 18 (.q 19 (.q 20 (.q 21 (.b 5 (.b 22 (.q 23 (.q 24 (.q 25 (.q 26 (.e 27 (.e 28 (.q 29 (.q 30 .done)))))))) 27 (.e 22 (.q 23 (.q 24 (.q 25 (.q 26 (.e 28 (.q 29 (.q 30 .done))))))))) 27 (.e 5 (.e 22 (.q 23 (.q 24 (.q 25 (.q 26 (.e 28 (.q 29 (.q 30 .done))))))))))))))))))))))))))))))) (by kernel_rfl) .pk (by kernel_rfl) (by kernel_rfl) (by kernel_rfl) ?_)))))))))))
  refine .v rfl (.move rfl) (.v rfl (.nilCheck rfl) (.v rfl (.field fo_138_0_WSvc rfl) (.v rfl (.field fo_136_0_WSvc rfl) (.v rfl (.load isAgg52 rfl .tk (by rfl)) ?_))))
  refine .v rfl (.move rfl) (.v rfl (.nilCheck rfl) (.v rfl (.field fo_138_0_WSvc rfl) (.v rfl (.field fo_136_2_WSvc rfl) (.v rfl (.load isAgg3 rfl .tk (by rfl)) ?_))))
  refine .v rfl (.move rfl) (.v rfl (.nilCheck rfl) (.v rfl (.field fo_138_0_WSvc rfl) (.v rfl (.field fo_136_3_WSvc rfl) (.v rfl (.field fo_37_0_WSvc rfl) (.v rfl (.ixArr1 underlying35 sizeOf23 rfl rfl (by decide)) ?_)))))
  refine .v rfl (.load isAgg23 rfl .tk (by rfl)) ?_
  refine .v rfl (.move rfl) (.v rfl (.conv_64_32 underlying3 underlying23 rfl) ?_)
  refine .v rfl (.mul32 (a := 4#32) rfl rfl) (.v rfl (.add32 rfl rfl) (.both rfl rfl (fun fu_ li_ hk_ hs_ hl_ => ?_) (fun fu_ li_ hk_ hs_ hl_ => ?_)))
  ·
   refine .call call130 (S_MemoryD) rfl .pk rfl (fun x17 hx17 => ?_)
   refine .nil (TS.back hk_ hs_ hl_ .pk ?_)
   refine .both rfl rfl (fun fu_ li_ hk_ hs_ hl_ => ?_) (fun fu_ li_ hk_ hs_ hl_ => ?_)
   ·
    refine .call call134 (S_TranslateD (va := vA F i)) rfl .pk rfl (fun x34 hx34 => ?_)
    rw [show transM Y.mem tb (vA F i) 0 = vT D tb F i from hY.same.trans']
    obtain ⟨q, hq⟩ : ∃ q, vT D tb F i = q := ⟨_, rfl⟩
    rw [hq]
    refine .nil (TS.back hk_ hs_ hl_ .pk ?_)
    refine .v rfl (.move rfl) (.v rfl (.extract rfl rfl) (.v rfl (.extract rfl rfl) (.v rfl (.extract rfl rfl) (.eff rfl (fun fu_ li_ hk_ hs_ hl_ => ?_)))))
    refine .alloc zeroValue39 rfl rfl (fun b5 => ?_)
    refine .nil (TS.back hk_ hs_ hl_ .pk ?_)
    refine .eff rfl (fun fu_ li_ hk_ hs_ hl_ => ?_)
    refine .storeAll (us := [_, _]) sizeOf39 rfl rfl rfl rfl .up rfl ?_
    refine .nil (TS.back hk_ hs_ hl_ .pk ?_)
    refine .v rfl (.assign rfl) (.v rfl (.assign rfl) (.done (TQ.then (.seq (.seq (.region (.v (.move rfl) (.v (.neq rfl rfl) (.nil (TQ.then ?_))))))))))
    first | refine .cond_dec rfl (fun h2 => ?_) (fun h2 => ?_) | refine .cond rfl (fun h2 => ?_) (fun h2 => ?_)
    ·
     refine .seq (.region (.v (.assign (v := w32 20#32) rfl) (.nil (TQ.then (.ret (.then_ret (.blk_ret (.then_ret (.then_ret (.blk_ret (.then_ret ?_)))))))))))
     exact .ret results102 (.tmp rfl .nil) (Y.tk x34) (by rw [verR_bad ⟨i, hlt, by rw [hq]; exact h2⟩]; rfl) (by rw [verR_bad ⟨i, hlt, by rw [hq]; exact h2⟩]; exact (hY.tk hx34).le (by omega)) (by rw [verR_bad ⟨i, hlt, by rw [hq]; exact h2⟩]; exact .en)
    ·
     refine .skip (TQ.then (.draw (H := [.row c _ _, .row b5 _ _]) (.q 0 (.q 1 (.q 2 (.q 3 (.q 4 (.q 5 (.q 6 (.q 7 (.q 8 (.q 10 (.q 11 (.q 16 (.e 9 (.e 12 (.q 13 (.q 14 (.q 15 (.q 17 (.e 18 .done))))))))))))))))))) (by kernel_rfl) .pk (by kernel_rfl) (by kernel_rfl) (by kernel_rfl) ?_))
     refine .v rfl (.move rfl) (.v rfl (.quo64 rfl rfl (by omega)) ?_)
     refine .v rfl (.move rfl) (.v rfl (.rem64 rfl rfl (by omega)) ?_)
     refine .v rfl (.move rfl) (.v rfl (.nilCheck rfl) (.v rfl (.field fo_138_0_WSvc rfl) (.v rfl (.field fo_136_0_WSvc rfl) (.v rfl (.load isAgg52 rfl .tk (by rfl)) ?_))))
     refine .v rfl (.loadAgg (vs := [_, _]) isAgg39 sizeOf39 rfl .tk (by rfl) (by rfl)) ?_
     refine .v rfl (.move rfl) (.v rfl (.ixArr underlying211 sizeOf24 rfl rfl (by omega)) ?_)
     refine .eff rfl (fun fu_ li_ hk_ hs_ hl_ => ?_)
     refine .call call130 (S_MemoryD) rfl .pk rfl (fun x50 hx50 => ?_)
     refine .nil (TS.back hk_ hs_ hl_ .pk ?_)
     refine .eff rfl (fun fu_ li_ hk_ hs_ hl_ => ?_)
     refine .call call135 S_ReadD rfl .pk rfl (fun x53 hx53 => ?_)
     rw [show (Y.tk x34).mem.peek q.sec q.page q.off = vW D tb F i from by rw [vW, hq]; exact (hY.tk (Nat.le_refl x34)).same.peek, ← hg]
     refine .nil (TS.back hk_ hs_ hl_ .pk ?_)
     refine .v rfl (.move rfl) (.v rfl (.extract rfl rfl) (.v rfl (.extract rfl rfl) (.v rfl (.ixArr1 underlying24 sizeOf23 rfl rfl (by omega)) ?_)))
     refine .eff rfl (fun fu_ li_ hk_ hs_ hl_ => ?_)
     refine .storeTo (new := w32s ((vL D tb F).take (i + 1) ++ List.replicate ((vL D tb F).length - (i + 1)) 0)) sizeOf23 rfl rfl rfl .up (by rw [show 0 + ((i : Int) / 8).toNat * 8 + ((i : Int) % 8).toNat = i by omega, ← fillTo_set (l := vL D tb F) (by omega)]; exact w32s_set) (by rw [w32s_length, List.length_append, List.length_take, List.length_replicate]; omega) ?_
     refine .nil (TS.back hk_ hs_ hl_ .pk ?_)
     refine .done (.blk_normal (TQ.then (.region (.v (.add64 rfl rfl (by omega)) ?_))))
     refine .v (.move rfl) (.nil ?_)
     exact .next ⟨(i + 1, (Y.tk x34).tk (rdT (Y.tk x34).mem q.sec q.page q.off)), by dsimp only; omega, ((hY.tk hx34).tk (rdT_le (M := (Y.tk x34).mem) (s := q.sec) (p := q.page) (o := q.off))).le (by dsimp only; omega), fun j hj2 => by rcases Nat.lt_succ_iff_lt_or_eq.1 hj2 with h | h; exact hj j h; (subst h; rw [hq]; exact Classical.byContradiction h2)⟩ (by dsimp only; omega) .st .en
   ·
    refine .alloc zeroValue39 rfl rfl (fun b5 => ?_)
    refine .nil (TS.back hk_ hs_ hl_ .pk ?_)
    refine .eff rfl (fun fu_ li_ hk_ hs_ hl_ => ?_)
    refine .call call134 (S_TranslateD (va := vA F i)) rfl .pk rfl (fun x34 hx34 => ?_)
    rw [show transM Y.mem tb (vA F i) 0 = vT D tb F i from hY.same.trans']
    obtain ⟨q, hq⟩ : ∃ q, vT D tb F i = q := ⟨_, rfl⟩
    rw [hq]
    refine .nil (TS.back hk_ hs_ hl_ .pk ?_)
    refine .v rfl (.move rfl) (.v rfl (.extract rfl rfl) (.v rfl (.extract rfl rfl) (.v rfl (.extract rfl rfl) (.eff rfl (fun fu_ li_ hk_ hs_ hl_ => ?_)))))
    refine .storeAll (us := [_, _]) sizeOf39 rfl rfl rfl rfl .up rfl ?_
    refine .nil (TS.back hk_ hs_ hl_ .pk ?_)
    refine .v rfl (.assign rfl) (.v rfl (.assign rfl) (.done (TQ.then (.seq (.seq (.region (.v (.move rfl) (.v (.neq rfl rfl) (.nil (TQ.then ?_))))))))))
    first | refine .cond_dec rfl (fun h2 => ?_) (fun h2 => ?_) | refine .cond rfl (fun h2 => ?_) (fun h2 => ?_)
    ·
     refine .seq (.region (.v (.assign (v := w32 20#32) rfl) (.nil (TQ.then (.ret (.then_ret (.blk_ret (.then_ret (.then_ret (.blk_ret (.then_ret ?_)))))))))))
     exact .ret results102 (.tmp rfl .nil) (Y.tk x34) (by rw [verR_bad ⟨i, hlt, by rw [hq]; exact h2⟩]; rfl) (by rw [verR_bad ⟨i, hlt, by rw [hq]; exact h2⟩]; exact (hY.tk hx34).le (by omega)) (by rw [verR_bad ⟨i, hlt, by rw [hq]; exact h2⟩]; exact .en)
    ·
     refine .skip (TQ.then (.draw (H := [.row c _ _, .row b5 _ _]) (.q 0 (.q 1 (.q 2 (.q 3 (.q 4 (.q 5 (.q 6 (.q 7 (.q 8 (.q 10 (.q 11 (.q 16 (.e 9 (.e 12 (.q 13 (.q 14 (.q 15 (.q 17 (.e 18 .done))))))))))))))))))) (by kernel_rfl) .pk (by kernel_rfl) (by kernel_rfl) (by kernel_rfl) ?_))
     refine .v rfl (.move rfl) (.v rfl (.quo64 rfl rfl (by omega)) ?_)
     refine .v rfl (.move rfl) (.v rfl (.rem64 rfl rfl (by omega)) ?_)
     refine .v rfl (.move rfl) (.v rfl (.nilCheck rfl) (.v rfl (.field fo_138_0_WSvc rfl) (.v rfl (.field fo_136_0_WSvc rfl) (.v rfl (.load isAgg52 rfl .tk (by rfl)) ?_))))
     refine .v rfl (.loadAgg (vs := [_, _]) isAgg39 sizeOf39 rfl .tk (by rfl) (by rfl)) ?_
     refine .v rfl (.move rfl) (.v rfl (.ixArr underlying211 sizeOf24 rfl rfl (by omega)) ?_)
     refine .eff rfl (fun fu_ li_ hk_ hs_ hl_ => ?_)
     refine .call call130 (S_MemoryD) rfl .pk rfl (fun x50 hx50 => ?_)
     refine .nil (TS.back hk_ hs_ hl_ .pk ?_)
     refine .eff rfl (fun fu_ li_ hk_ hs_ hl_ => ?_)
     refine .call call135 S_ReadD rfl .pk rfl (fun x53 hx53 => ?_)
     rw [show (Y.tk x34).mem.peek q.sec q.page q.off = vW D tb F i from by rw [vW, hq]; exact (hY.tk (Nat.le_refl x34)).same.peek, ← hg]
     refine .nil (TS.back hk_ hs_ hl_ .pk ?_)
     refine .v rfl (.move rfl) (.v rfl (.extract rfl rfl) (.v rfl (.extract rfl rfl) (.v rfl (.ixArr1 underlying24 sizeOf23 rfl rfl (by omega)) ?_)))
     refine .eff rfl (fun fu_ li_ hk_ hs_ hl_ => ?_)
     refine .storeTo (new := w32s ((vL D tb F).take (i + 1) ++ List.replicate ((vL D tb F).length - (i + 1)) 0)) sizeOf23 rfl rfl rfl .up (by rw [show 0 + ((i : Int) / 8).toNat * 8 + ((i : Int) % 8).toNat = i by omega, ← fillTo_set (l := vL D tb F) (by omega)]; exact w32s_set) (by rw [w32s_length, List.length_append, List.length_take, List.length_replicate]; omega) ?_
     refine .nil (TS.back hk_ hs_ hl_ .pk ?_)
     refine .done (.blk_normal (TQ.then (.region (.v (.add64 rfl rfl (by omega)) ?_))))
     refine .v (.move rfl) (.nil ?_)
     exact .next ⟨(i + 1, (Y.tk x34).tk (rdT (Y.tk x34).mem q.sec q.page q.off)), by dsimp only; omega, ((hY.tk hx34).tk (rdT_le (M := (Y.tk x34).mem) (s := q.sec) (p := q.page) (o := q.off))).le (by dsimp only; omega), fun j hj2 => by rcases Nat.lt_succ_iff_lt_or_eq.1 hj2 with h | h; exact hj j h; (subst h; rw [hq]; exact Classical.byContradiction h2)⟩ (by dsimp only; omega) .st .en
  ·
   refine .alloc zeroValue39 rfl rfl (fun b5 => ?_)
   refine .nil (TS.back hk_ hs_ hl_ .pk ?_)
   refine .eff rfl (fun fu_ li_ hk_ hs_ hl_ => ?_)
   refine .call call130 (S_MemoryD) rfl .pk rfl (fun x17 hx17 => ?_)
   refine .nil (TS.back hk_ hs_ hl_ .pk ?_)
   refine .eff rfl (fun fu_ li_ hk_ hs_ hl_ => ?_)
   refine .call call134 (S_TranslateD (va := vA F i)) rfl .pk rfl (fun x34 hx34 => ?_)
   rw [show transM Y.mem tb (vA F i) 0 = vT D tb F i from hY.same.trans']
   obtain ⟨q, hq⟩ : ∃ q, vT D tb F i = q := ⟨_, rfl⟩
   rw [hq]
   refine .nil (TS.back hk_ hs_ hl_ .pk ?_)
   refine .v rfl (.move rfl) (.v rfl (.extract rfl rfl) (.v rfl (.extract rfl rfl) (.v rfl (.extract rfl rfl) (.eff rfl (fun fu_ li_ hk_ hs_ hl_ => ?_)))))
   refine .storeAll (us := [_, _]) sizeOf39 rfl rfl rfl rfl .up rfl ?_
   refine .nil (TS.back hk_ hs_ hl_ .pk ?_)
   refine .v rfl (.assign rfl) (.v rfl (.assign rfl) (.done (TQ.then (.seq (.seq (.region (.v (.move rfl) (.v (.neq rfl rfl) (.nil (TQ.then ?_))))))))))
   first | refine .cond_dec rfl (fun h2 => ?_) (fun h2 => ?_) | refine .cond rfl (fun h2 => ?_) (fun h2 => ?_)
   ·
    refine .seq (.region (.v (.assign (v := w32 20#32) rfl) (.nil (TQ.then (.ret (.then_ret (.blk_ret (.then_ret (.then_ret (.blk_ret (.then_ret ?_)))))))))))
    exact .ret results102 (.tmp rfl .nil) (Y.tk x34) (by rw [verR_bad ⟨i, hlt, by rw [hq]; exact h2⟩]; rfl) (by rw [verR_bad ⟨i, hlt, by rw [hq]; exact h2⟩]; exact (hY.tk hx34).le (by omega)) (by rw [verR_bad ⟨i, hlt, by rw [hq]; exact h2⟩]; exact .en)
   ·
    refine .skip (TQ.then (.draw (H := [.row c _ _, .row b5 _ _]) (.q 0 (.q 1 (.q 2 (.q 3 (.q 4 (.q 5 (.q 6 (.q 7 (.q 8 (.q 10 (.q 11 (.q 16 (.e 9 (.e 12 (.q 13 (.q 14 (.q 15 (.q 17 (.e 18 .done))))))))))))))))))) (by kernel_rfl) .pk (by kernel_rfl) (by kernel_rfl) (by kernel_rfl) ?_))
    refine .v rfl (.move rfl) (.v rfl (.quo64 rfl rfl (by omega)) ?_)
    refine .v rfl (.move rfl) (.v rfl (.rem64 rfl rfl (by omega)) ?_)
    refine .v rfl (.move rfl) (.v rfl (.nilCheck rfl) (.v rfl (.field fo_138_0_WSvc rfl) (.v rfl (.field fo_136_0_WSvc rfl) (.v rfl (.load isAgg52 rfl .tk (by rfl)) ?_))))
    refine .v rfl (.loadAgg (vs := [_, _]) isAgg39 sizeOf39 rfl .tk (by rfl) (by rfl)) ?_
    refine .v rfl (.move rfl) (.v rfl (.ixArr underlying211 sizeOf24 rfl rfl (by omega)) ?_)
    refine .eff rfl (fun fu_ li_ hk_ hs_ hl_ => ?_)
    refine .call call130 (S_MemoryD) rfl .pk rfl (fun x50 hx50 => ?_)
    refine .nil (TS.back hk_ hs_ hl_ .pk ?_)
    refine .eff rfl (fun fu_ li_ hk_ hs_ hl_ => ?_)
    refine .call call135 S_ReadD rfl .pk rfl (fun x53 hx53 => ?_)
    rw [show (Y.tk x34).mem.peek q.sec q.page q.off = vW D tb F i from by rw [vW, hq]; exact (hY.tk (Nat.le_refl x34)).same.peek, ← hg]
    refine .nil (TS.back hk_ hs_ hl_ .pk ?_)
    refine .v rfl (.move rfl) (.v rfl (.extract rfl rfl) (.v rfl (.extract rfl rfl) (.v rfl (.ixArr1 underlying24 sizeOf23 rfl rfl (by omega)) ?_)))
    refine .eff rfl (fun fu_ li_ hk_ hs_ hl_ => ?_)
    refine .storeTo (new := w32s ((vL D tb F).take (i + 1) ++ List.replicate ((vL D tb F).length - (i + 1)) 0)) sizeOf23 rfl rfl rfl .up (by rw [show 0 + ((i : Int) / 8).toNat * 8 + ((i : Int) % 8).toNat = i by omega, ← fillTo_set (l := vL D tb F) (by omega)]; exact w32s_set) (by rw [w32s_length, List.length_append, List.length_take, List.length_replicate]; omega) ?_
    refine .nil (TS.back hk_ hs_ hl_ .pk ?_)
    refine .done (.blk_normal (TQ.then (.region (.v (.add64 rfl rfl (by omega)) ?_))))
    refine .v (.move rfl) (.nil ?_)
    exact .next ⟨(i + 1, (Y.tk x34).tk (rdT (Y.tk x34).mem q.sec q.page q.off)), by dsimp only; omega, ((hY.tk hx34).tk (rdT_le (M := (Y.tk x34).mem) (s := q.sec) (p := q.page) (o := q.off))).le (by dsimp only; omega), fun j hj2 => by rcases Nat.lt_succ_iff_lt_or_eq.1 hj2 with h | h; exact hj j h; (subst h; rw [hq]; exact Classical.byContradiction h2)⟩ (by dsimp only; omega) .st .en
 ·
  obtain ⟨⟨i, Y⟩, hi, hY, hj⟩ := x
  dsimp only at hi hY hj h1 ⊢
  obtain rfl : i = 24 := by omega
  rw [show (vL D tb F).take 24 ++ List.replicate ((vL D tb F).length - 24) 0 = vL D tb F from by rw [List.take_of_length_le (by omega), hvl]; simp]
  have hnb : ¬ vBad D tb F := fun ⟨j, h, h2⟩ => h2 (hj j h)
  refine .exit (.then_exit (.then_exit (.blk_hit (TQ.then (.seq (.region (.v (.move rfl) (.v (.nilCheck rfl) (.v (.field fo_138_0_WSvc rfl) (.v (.field fo_136_3_WSvc rfl) (.v (.field fo_37_0_WSvc rfl) (.v (.ixArr1 underlying35 sizeOf23 rfl rfl (by decide)) ?_))))))))))))
  refine .storeTo (v := w32 0#32) (new := AskL d sp tb { F with r1 := 0#32 } K v) sizeOf23 rfl rfl rfl .up rfl (by show 4 < 31; decide) ?_
  refine .nil (TQ.then (.seq (.seq (.draw (H := [.row c _ _, .row b3 _ _]) (.q 0 (.q 1 (.q 2 (.q 3 (.q 4 (.q 5 (.q 6 (.q 7 (.q 8 (.q 9 (.e 10 .done))))))))))) (by kernel_rfl) .pk (by kernel_rfl) (by kernel_rfl) (by kernel_rfl) ?_))))
  refine .v rfl (.move rfl) (.v rfl (.nilCheck rfl) (.v rfl (.field fo_138_1_WSvc rfl) (.v rfl (.loadAgg (vs := [_, _, _, _, _, _, _, _]) isAgg24 sizeOf24 rfl .tk (by rfl) (by rfl)) ?_)))
  refine .v rfl (.ixArr underlying211 sizeOf24 rfl rfl (by decide)) ?_
  refine .v rfl (.loadAgg (vs := [w32 (s8At (vL D tb F) 0).a, w32 (s8At (vL D tb F) 0).b, w32 (s8At (vL D tb F) 0).c, w32 (s8At (vL D tb F) 0).d, w32 (s8At (vL D tb F) 0).e, w32 (s8At (vL D tb F) 0).f, w32 (s8At (vL D tb F) 0).g, w32 (s8At (vL D tb F) 0).h]) isAgg24 sizeOf24 rfl .tk (s8At_cells (k := 0) (by omega)) rfl) ?_
  refine .v rfl (.ixArr underlying211 sizeOf24 rfl rfl (by decide)) ?_
  refine .v rfl (.loadAgg (vs := [w32 (s8At (vL D tb F) 8).a, w32 (s8At (vL D tb F) 8).b, w32 (s8At (vL D tb F) 8).c, w32 (s8At (vL D tb F) 8).d, w32 (s8At (vL D tb F) 8).e, w32 (s8At (vL D tb F) 8).f, w32 (s8At (vL D tb F) 8).g, w32 (s8At (vL D tb F) 8).h]) isAgg24 sizeOf24 rfl .tk (s8At_cells (k := 8) (by omega)) rfl) ?_
  refine .v rfl (.ixArr underlying211 sizeOf24 rfl rfl (by decide)) ?_
  refine .v rfl (.loadAgg (vs := [w32 (s8At (vL D tb F) 16).a, w32 (s8At (vL D tb F) 16).b, w32 (s8At (vL D tb F) 16).c, w32 (s8At (vL D tb F) 16).d, w32 (s8At (vL D tb F) 16).e, w32 (s8At (vL D tb F) 16).f, w32 (s8At (vL D tb F) 16).g, w32 (s8At (vL D tb F) 16).h]) isAgg24 sizeOf24 rfl .tk (s8At_cells (k := 16) (by omega)) rfl) ?_
  refine .eff rfl (fun fu_ li_ hk_ hs_ hl_ => ?_)
  refine .call call136 (S_attest_Verify (K := K) (M := s8At (vL D tb F) 0) (D := s8At (vL D tb F) 8) (T := s8At (vL D tb F) 16)) rfl .pk rfl (fun x75 hx75 => ?_)
  refine .nil (TS.back hk_ hs_ hl_ .pk ?_)
  refine .done (TQ.then ?_)
  first | refine .cond_dec rfl (fun h2 => ?_) (fun h2 => ?_) | refine .cond rfl (fun h2 => ?_) (fun h2 => ?_)
  ·
   refine .region (.v (.move rfl) (.v (.nilCheck rfl) (.v (.field fo_138_0_WSvc rfl) (.v (.field fo_136_3_WSvc rfl) (.v (.field fo_37_0_WSvc rfl) (.v (.ixArr1 underlying35 sizeOf23 rfl rfl (by decide)) ?_))))))
   refine .storeTo (v := w32 1#32) (new := AskL d sp tb { F with r1 := 1#32 } K v) sizeOf23 rfl rfl rfl .up rfl (by show 4 < 31; decide) ?_
   refine .nil (TQ.then (.seq (.region (.v (.assign (v := w32 0#32) rfl) (.nil (TQ.then (.ret ?_)))))))
   exact .ret results102 (.tmp rfl .nil) Y (by rw [verR_ok hnb h2]; rfl) (by rw [verR_ok hnb h2]; exact hY) (by rw [verR_ok hnb h2]; exact .en)
  ·
   refine .skip (TQ.then (.seq (.region (.v (.assign (v := w32 0#32) rfl) (.nil (TQ.then (.ret ?_)))))))
   exact .ret results102 (.tmp rfl .nil) Y (by rw [verR_no hnb h2]; rfl) (by rw [verR_no hnb h2]; exact hY) (by rw [verR_no hnb h2]; exact .en)

theorem fo_218_0_WSvc : FieldOff prog 218 0 0 := FieldOff.of 23 1 underlying218 rfl sizeOf23 rfl
theorem fo_218_1_WSvc : FieldOff prog 218 1 1 := FieldOff.of 4 1 underlying218 rfl sizeOf4 rfl
theorem fo_218_2_WSvc : FieldOff prog 218 2 2 := FieldOff.of 4 1 underlying218 rfl sizeOf4 rfl
theorem pl_224_WSvc : Places prog 224 [(0, 2), (2, 1), (3, 1)] := ⟨_, underlying224, fun w => by simp [sizeOf4, sizeOf39]⟩
set_option maxHeartbeats 1000000 in
theorem S_svc_asked_mapIn {c d m : Nat} {D : Db} {sp tb : Int} {F : File} {K : S8} {v : Value} : Spec prog 103 [ptr c].toArray [DbA d m D, AskR c d sp tb F K v] (fun x : Db => D.near x (mapR D sp F).db 1031) (fun x => w32 (mapR D sp F).code) (fun x => [DbA d m x, AskR c d sp tb (mapR D sp F).f K v]) := by
 refine Spec.body func103 rfl ntmps103 rfl (fun σ R => ?_)
 refine .seq (.region (.v (.assign (v := w32 0#32) rfl) (.nil (TQ.then (.seq (.region (.v (.move rfl) (.v (.nilCheck rfl) (.v (.field fo_138_0_WSvc rfl) (.call call137 (S_svc_scene_page) rfl .pk rfl (fun x9 hx9 => ?_)))))))))))
 refine .v (.assign rfl) (.nil (TQ.then (.seq (.seq (.region (.v (.move rfl) (.v (.lss rfl rfl) (.nil (TQ.then ?_)))))))))
 first | refine .cond_dec rfl (fun h1 => ?_) (fun h1 => ?_) | refine .cond rfl (fun h1 => ?_) (fun h1 => ?_)
 ·
  refine .seq (.region (.v (.assign (v := w32 18#32) rfl) (.nil (TQ.then (.ret (.then_ret ?_))))))
  exact .ret results103 (.tmp rfl .nil) D (by rw [mapR_1 (pgV_neg h1)]; rfl) (by rw [mapR_1 (pgV_neg h1)]; exact .refl) (by rw [mapR_1 (pgV_neg h1)]; exact .en)
 ·
  obtain ⟨ho, hpg⟩ := pgV_pos h1
  rw [hpg]
  refine .skip (TQ.then (.seq (.region (.v (.move rfl) (.v (.nilCheck rfl) (.v (.field fo_138_0_WSvc rfl) (.v (.field fo_136_3_WSvc rfl) (.v (.field fo_37_0_WSvc rfl) (.v (.ixArr1 underlying35 sizeOf23 rfl rfl (by decide)) ?_)))))))))
  refine .v (.load isAgg23 rfl .tk (by rfl)) ?_
  refine .call call138 (S_space_Parse) rfl .pk rfl (fun x20 hx20 => ?_)
  refine .v (.move rfl) (.v (.extract rfl rfl) (.v (.extract rfl rfl) (.alloc zeroValue218 rfl rfl (fun b4 => ?_))))
  refine .storeAll (us := [_, _, _]) sizeOf218 rfl rfl rfl rfl .up rfl ?_
  refine .v (.assign rfl) (.nil (TQ.then (.seq (.seq (.region (.v (.move rfl) (.v (.neq rfl rfl) (.nil (TQ.then ?_)))))))))
  first | refine .cond_dec rfl (fun h2 => ?_) (fun h2 => ?_) | refine .cond rfl (fun h2 => ?_) (fun h2 => ?_)
  ·
   refine .seq (.region (.v (.assign (v := w32 6#32) rfl) (.nil (TQ.then (.ret (.then_ret ?_))))))
   exact .ret results103 (.tmp rfl .nil) D (by rw [mapR_2 ho h2]; rfl) (by rw [mapR_2 ho h2]; exact .refl) (by rw [mapR_2 ho h2]; exact .en)
  ·
   refine .skip (TQ.then (.seq (.seq (.draw (H := [.row c _ _, .row b4 _ _]) (.q 0 (.q 1 (.q 2 (.q 3 (.q 4 (.q 5 (.q 6 (.q 7 (.q 8 (.q 9 (.q 10 (.q 11 (.e 12 .done))))))))))))) (by kernel_rfl) .pk (by kernel_rfl) (by kernel_rfl) (by kernel_rfl) ?_))))
   refine .v rfl (.move rfl) (.v rfl (.nilCheck rfl) (.v rfl (.field fo_138_0_WSvc rfl) (.v rfl (.field fo_136_0_WSvc rfl) (.v rfl (.load isAgg52 rfl .tk (by rfl)) ?_))))
   refine .v rfl (.move rfl) (.v rfl (.nilCheck rfl) (.v rfl (.field fo_138_0_WSvc rfl) (.v rfl (.field fo_136_1_WSvc rfl) (.v rfl (.load isAgg3 rfl .tk (by rfl)) ?_))))
   refine .v rfl (.field fo_218_0_WSvc rfl) (.v rfl (.load isAgg23 rfl .tk (by rfl)) ?_)
   refine .eff rfl (fun fu_ li_ hk_ hs_ hl_ => ?_)
   refine .call call139 (S_space_Slot) rfl .pk rfl (fun x37 hx37 => ?_)
   refine .nil (TS.back hk_ hs_ hl_ .pk ?_)
   refine .done (TQ.then (.block (.seq (.region (.v (.eql rfl rfl) (.v (.assign rfl) (.nil (TQ.then ?_))))))))
   first | refine .cond_dec rfl (fun h3 => ?_) (fun h3 => ?_) | refine .cond rfl (fun h3 => ?_) (fun h3 => ?_)
   ·
    refine .skip (.blk_normal (TQ.then (.seq (.region (.v (.move rfl) (.v (.nilCheck rfl) (.v (.field fo_138_0_WSvc rfl) (.v (.field fo_136_0_WSvc rfl) (.v (.load isAgg52 rfl .tk (by rfl)) ?_)))))))))
    refine .v (.move rfl) (.call call24 (S_pagedb_DB_Turn) rfl .pk rfl (fun x48 hx48 => ?_))
    refine .nil (TQ.then (.seq (.draw (H := [.row c _ _, .row b4 _ _]) (.q 0 (.q 1 (.q 2 (.q 3 (.q 4 (.q 5 (.q 6 (.q 7 (.q 8 (.q 9 (.q 10 (.q 11 (.q 12 (.q 13 (.q 14 (.q 15 (.q 16 (.q 17 (.q 18 (.e 19 .done)))))))))))))))))))) (by kernel_rfl) .pk (by kernel_rfl) (by kernel_rfl) (by kernel_rfl) ?_)))
    refine .v rfl (.move rfl) (.v rfl (.nilCheck rfl) (.v rfl (.field fo_138_0_WSvc rfl) (.v rfl (.field fo_136_0_WSvc rfl) (.v rfl (.load isAgg52 rfl .tk (by rfl)) ?_))))
    refine .v rfl (.move rfl) (.v rfl (.nilCheck rfl) (.v rfl (.field fo_138_0_WSvc rfl) (.v rfl (.field fo_136_1_WSvc rfl) (.v rfl (.load isAgg3 rfl .tk (by rfl)) ?_))))
    refine .v rfl (.field fo_218_0_WSvc rfl) (.v rfl (.load isAgg23 rfl .tk (by rfl)) ?_)
    refine .v rfl (.move rfl) (.v rfl (.build (cs := [_, _]) zeroValue39 pl_39_WSvc rfl rfl) ?_)
    refine .v rfl (.field fo_218_1_WSvc rfl) (.v rfl (.load isAgg4 rfl .tk (by rfl)) ?_)
    refine .v rfl (.field fo_218_2_WSvc rfl) (.v rfl (.load isAgg4 rfl .tk (by rfl)) ?_)
    refine .v rfl (.build (cs := [_, _, _, _]) zeroValue224 pl_224_WSvc rfl rfl) ?_
    refine .eff rfl (fun fu_ li_ hk_ hs_ hl_ => ?_)
    refine .call call140 (S_space_Put (z := ⟨true, pg F, (parseM F.r2).1.wr, (parseM F.r2).1.ex⟩)) rfl .pk rfl (fun x68 hx68 => ?_)
    refine .nil (TS.back hk_ hs_ hl_ .pk ?_)
    refine .done (TQ.then (.seq (.region (.v (.assign (v := w32 0#32) rfl) (.nil (TQ.then (.ret ?_)))))))
    exact .ret results103 (.tmp rfl .nil) _ (by rw [mapR_5 ho h2 h3]; rfl) (by rw [mapR_5 ho h2 h3]; exact ((((Db.near.refl (D := D) (K := 0)).tk hx37).turn.tk hx68).put).le (by decide)) (by rw [mapR_5 ho h2 h3]; exact .en)
   ·
    refine .seq (.region (.v (.eql rfl rfl) (.v (.assign rfl) (.nil (TQ.then ?_)))))
    first | refine .cond_dec rfl (fun h4 => ?_) (fun h4 => ?_) | refine .cond rfl (fun h4 => ?_) (fun h4 => ?_)
    ·
     refine .seq (.region (.v (.assign (v := w32 7#32) rfl) (.nil (TQ.then (.ret (.blk_ret (.then_ret ?_)))))))
     exact .ret results103 (.tmp rfl .nil) (D.tk x37) (by rw [mapR_3 ho h2 h4]; rfl) (by rw [mapR_3 ho h2 h4]; exact ((Db.near.refl (D := D) (K := 0)).tk hx37).le (by decide)) (by rw [mapR_3 ho h2 h4]; exact .en)
    ·
     refine .seq (.region (.v (.assign (v := w32 21#32) rfl) (.nil (TQ.then (.ret (.blk_ret (.then_ret ?_)))))))
     exact .ret results103 (.tmp rfl .nil) (D.tk x37) (by rw [mapR_4 ho h2 h4 h3]; rfl) (by rw [mapR_4 ho h2 h4 h3]; exact ((Db.near.refl (D := D) (K := 0)).tk hx37).le (by decide)) (by rw [mapR_4 ho h2 h4 h3]; exact .en)

set_option maxHeartbeats 2000000 in
theorem S_svc_asked_unmap {c d m : Nat} {D : Db} {sp tb : Int} {F : File} {K : S8} {v : Value} : Spec prog 104 [ptr c].toArray [DbA d m D, AskR c d sp tb F K v] (fun x : Db => D.near x (unmapR D sp F).db 1031) (fun x => w32 (unmapR D sp F).code) (fun x => [DbA d m x, AskR c d sp tb (unmapR D sp F).f K v]) := by
 refine Spec.body func104 rfl ntmps104 rfl (fun σ R => ?_)
 refine .seq (.region (.v (.assign (v := w32 0#32) rfl) (.nil (TQ.then (.seq (.region (.v (.move rfl) (.v (.nilCheck rfl) (.v (.field fo_138_0_WSvc rfl) (.call call137 (S_svc_scene_page) rfl .pk rfl (fun x10 hx10 => ?_)))))))))))
 refine .v (.assign rfl) (.nil (TQ.then (.seq (.seq (.region (.v (.move rfl) (.v (.lss rfl rfl) (.nil (TQ.then ?_)))))))))
 first | refine .cond_dec rfl (fun h1 => ?_) (fun h1 => ?_) | refine .cond rfl (fun h1 => ?_) (fun h1 => ?_)
 ·
  refine .seq (.region (.v (.assign (v := w32 19#32) rfl) (.nil (TQ.then (.ret (.then_ret ?_))))))
  exact .ret results104 (.tmp rfl .nil) D (by rw [unmapR_1 (pgV_neg h1)]; rfl) (by rw [unmapR_1 (pgV_neg h1)]; exact .refl) (by rw [unmapR_1 (pgV_neg h1)]; exact .en)
 ·
  obtain ⟨ho, hpg⟩ := pgV_pos h1
  rw [hpg]
  refine .skip (TQ.then (.seq (.region (.v (.move rfl) (.v (.nilCheck rfl) (.v (.field fo_138_0_WSvc rfl) (.v (.field fo_136_3_WSvc rfl) (.v (.field fo_37_0_WSvc rfl) (.v (.ixArr1 underlying35 sizeOf23 rfl rfl (by decide)) ?_)))))))))
  refine .v (.load isAgg23 rfl .tk (by rfl)) ?_
  refine .call call138 (S_space_Parse) rfl .pk rfl (fun x21 hx21 => ?_)
  refine .v (.move rfl) (.v (.extract rfl rfl) (.v (.extract rfl rfl) (.alloc zeroValue218 rfl rfl (fun b4 => ?_))))
  refine .storeAll (us := [_, _, _]) sizeOf218 rfl rfl rfl rfl .up rfl ?_
  refine .v (.assign rfl) (.nil (TQ.then (.seq (.seq (.region (.v (.move rfl) (.v (.neq rfl rfl) (.nil (TQ.then ?_)))))))))
  first | refine .cond_dec rfl (fun h2 => ?_) (fun h2 => ?_) | refine .cond rfl (fun h2 => ?_) (fun h2 => ?_)
  ·
   refine .seq (.region (.v (.assign (v := w32 6#32) rfl) (.nil (TQ.then (.ret (.then_ret ?_))))))
   exact .ret results104 (.tmp rfl .nil) D (by rw [unmapR_2 ho h2]; rfl) (by rw [unmapR_2 ho h2]; exact .refl) (by rw [unmapR_2 ho h2]; exact .en)
  ·
   refine .skip (TQ.then (.seq (.draw (H := [.row c _ _, .row b4 _ _]) (.q 0 (.q 1 (.q 2 (.q 3 (.q 4 (.q 5 (.q 6 (.q 7 (.q 8 (.q 9 (.q 10 (.q 11 (.b 12 (.q 13 (.q 14 (.q 15 (.e 16 (.e 17 (.q 18 .done)))))) 16 (.e 12 (.q 13 (.q 14 (.q 15 (.e 17 (.q 18 .done))))))))))))))))))) (by kernel_rfl) .pk (by kernel_rfl) (by kernel_rfl) (by kernel_rfl) ?_)))
   refine .v rfl (.move rfl) (.v rfl (.nilCheck rfl) (.v rfl (.field fo_138_0_WSvc rfl) (.v rfl (.field fo_136_0_WSvc rfl) (.v rfl (.load isAgg52 rfl .tk (by rfl)) ?_))))
   refine .v rfl (.move rfl) (.v rfl (.nilCheck rfl) (.v rfl (.field fo_138_0_WSvc rfl) (.v rfl (.field fo_136_1_WSvc rfl) (.v rfl (.load isAgg3 rfl .tk (by rfl)) ?_))))
   refine .v rfl (.field fo_218_0_WSvc rfl) (.v rfl (.load isAgg23 rfl .tk (by rfl)) ?_)
   refine .both rfl rfl (fun fu_ li_ hk_ hs_ hl_ => ?_) (fun fu_ li_ hk_ hs_ hl_ => ?_)
   ·
    refine .call call141 (S_space_At) rfl .pk rfl (fun x39 hx39 => ?_)
    refine .nil (TS.back hk_ hs_ hl_ .pk ?_)
    refine .v rfl (.move rfl) (.v rfl (.extract rfl rfl) (.v rfl (.extract rfl rfl) (.eff rfl (fun fu_ li_ hk_ hs_ hl_ => ?_))))
    refine .alloc zeroValue224 rfl rfl (fun b6 => ?_)
    refine .nil (TS.back hk_ hs_ hl_ .pk ?_)
    refine .eff rfl (fun fu_ li_ hk_ hs_ hl_ => ?_)
    refine .storeAll (us := [_, _, _, _]) sizeOf224 rfl rfl rfl rfl .up rfl ?_
    refine .nil (TS.back hk_ hs_ hl_ .pk ?_)
    refine .v rfl (.assign rfl) (.done (TQ.then (.seq (.seq (.region (.v (.move rfl) (.v (.eql rfl rfl) (.nil (TQ.then ?_)))))))))
    first | refine .cond_dec rfl (fun h3 => ?_) (fun h3 => ?_) | refine .cond rfl (fun h3 => ?_) (fun h3 => ?_)
    ·
     refine .seq (.region (.v (.assign (v := w32 21#32) rfl) (.nil (TQ.then (.ret (.then_ret ?_))))))
     exact .ret results104 (.tmp rfl .nil) (D.tk x39) (by rw [unmapR_3 ho h2 h3]; rfl) (by rw [unmapR_3 ho h2 h3]; exact ((Db.near.refl (D := D) (K := 0)).tk hx39).le (by decide)) (by rw [unmapR_3 ho h2 h3]; exact .en)
    ·
     refine .skip (TQ.then (.seq (.seq (.region (.v (.move rfl) (.v (.neq rfl rfl) (.v (.move rfl) ?_)))))))
     refine' TL.orG (k := 10) (dj := 46) (d := 56) rfl ?_ ?_ ?_
     rotate_left
     ·
      intro g56 hd
      first | replace g56 := of_decide_eq_false g56 | skip
      refine .want rfl rfl (.v (.loadAgg (vs := [_, _, _, _]) isAgg224 sizeOf224 rfl .tk (by rfl) (by rfl)) ?_)
      refine .want rfl rfl (.v (.move rfl) (.want rfl rfl (.v (.build (cs := [.bool true, i64 (pg F)]) zeroValue39 pl_39_WSvc rfl rfl) ?_)))
      refine .want rfl rfl (.v (.field fo_218_1_WSvc rfl) (.want rfl rfl (.v (.load isAgg4 rfl .tk (by rfl)) ?_)))
      refine .want rfl rfl (.v (.field fo_218_2_WSvc rfl) (.want rfl rfl (.v (.load isAgg4 rfl .tk (by rfl)) ?_)))
      refine .want rfl rfl (.v (.build (cs := (⟨true, pg F, (parseM F.r2).1.wr, (parseM F.r2).1.ex⟩ : PMap).cells) zeroValue224 pl_224_WSvc rfl rfl) ?_)
      refine .want rfl rfl (.v (.neqAg eqGuardType224 isAgg224 sizeOf224 typeInfo224 rfl rfl (EqOk.struct underlying224 stoodInHeld224 typeInfo224 isAgg224 sizeOf224 rfl rfl (EqFs.cons (xs := [_, _]) (ys := [_, _]) (by decide) rfl (EqOk.struct underlying39 stoodInHeld39 typeInfo39 isAgg39 sizeOf39 rfl rfl (EqFs.cons (xs := [_]) (ys := [_]) (by decide) rfl (EqOk.bool underlying4 typeInfo4 isAgg4 sizeOf4) rfl (EqFs.cons (xs := [_]) (ys := [_]) (by decide) rfl (EqOk.int underlying3 typeInfo3 isAgg3 sizeOf3) rfl .nil))) rfl (EqFs.cons (xs := [_]) (ys := [_]) (by decide) rfl (EqOk.bool underlying4 typeInfo4 isAgg4 sizeOf4) rfl (EqFs.cons (xs := [_]) (ys := [_]) (by decide) rfl (EqOk.bool underlying4 typeInfo4 isAgg4 sizeOf4) rfl .nil))))) ?_)
      refine .v (.pick_false rfl rfl) (.nil ?_)
      exact .keep (Sub.cons rfl (Sub.push rfl (Sub.push rfl (Sub.push rfl (Sub.push rfl (Sub.push rfl (Sub.push rfl (Sub.push rfl (Sub.push rfl (Sub.push rfl (Sub.push rfl (Sub.pushSame hd Sub.rfl'))))))))))))
     ·
      intro g56 hd
      refine .skip rfl rfl rfl (.skip rfl rfl rfl (.skip rfl rfl rfl (.skip rfl rfl rfl (.skip rfl rfl rfl (.skip rfl rfl rfl (.skip rfl rfl rfl (.skip rfl rfl rfl (.skip rfl rfl rfl (.v (.pick_true rfl rfl) (.nil ?_))))))))))
      exact .keep (Sub.cons rfl (Sub.push rfl (Sub.push rfl (Sub.push rfl (Sub.push rfl (Sub.push rfl (Sub.push rfl (Sub.push rfl (Sub.push rfl (Sub.push rfl (Sub.push rfl (Sub.pushSame hd Sub.rfl'))))))))))))
     first | refine .boolOr ?_ | skip
     refine .nil (TQ.then ?_)
     first | refine .cond_dec rfl (fun h4 => ?_) (fun h4 => ?_) | refine .cond rfl (fun h4 => ?_) (fun h4 => ?_)
     ·
      replace h4 := ne_true (a := (atD D sp (parseM F.r2).1.va).1) (b := ⟨true, pg F, (parseM F.r2).1.wr, (parseM F.r2).1.ex⟩) h4
      refine .seq (.region (.v (.assign (v := w32 7#32) rfl) (.nil (TQ.then (.ret (.then_ret ?_))))))
      exact .ret results104 (.tmp rfl .nil) (D.tk x39) (by rw [unmapR_4 ho h2 h3 h4]; rfl) (by rw [unmapR_4 ho h2 h3 h4]; exact ((Db.near.refl (D := D) (K := 0)).tk hx39).le (by decide)) (by rw [unmapR_4 ho h2 h3 h4]; exact .en)
     ·
      replace h4 := ne_false (a := (atD D sp (parseM F.r2).1.va).1) (b := ⟨true, pg F, (parseM F.r2).1.wr, (parseM F.r2).1.ex⟩) h4
      refine .skip (TQ.then (.seq (.draw (H := [.row c _ _, .row b4 _ _]) (.q 0 (.q 1 (.q 2 (.q 3 (.q 4 (.q 5 (.q 6 (.q 7 (.q 8 (.q 9 (.q 10 (.q 11 (.e 12 .done))))))))))))) (by kernel_rfl) .pk (by kernel_rfl) (by kernel_rfl) (by kernel_rfl) ?_)))
      refine .v rfl (.move rfl) (.v rfl (.nilCheck rfl) (.v rfl (.field fo_138_0_WSvc rfl) (.v rfl (.field fo_136_0_WSvc rfl) (.v rfl (.load isAgg52 rfl .tk (by rfl)) ?_))))
      refine .v rfl (.move rfl) (.v rfl (.nilCheck rfl) (.v rfl (.field fo_138_0_WSvc rfl) (.v rfl (.field fo_136_1_WSvc rfl) (.v rfl (.load isAgg3 rfl .tk (by rfl)) ?_))))
      refine .v rfl (.field fo_218_0_WSvc rfl) (.v rfl (.load isAgg23 rfl .tk (by rfl)) ?_)
      refine .eff rfl (fun fu_ li_ hk_ hs_ hl_ => ?_)
      refine .call call142 (S_space_Cut) rfl .pk rfl (fun x69 hx69 => ?_)
      refine .nil (TS.back hk_ hs_ hl_ .pk ?_)
      refine .done (TQ.then (.seq (.region (.v (.move rfl) (.v (.nilCheck rfl) (.v (.field fo_138_0_WSvc rfl) (.v (.field fo_136_0_WSvc rfl) (.v (.load isAgg52 rfl .tk (by rfl)) ?_))))))))
      refine .v (.move rfl) (.call call24 (S_pagedb_DB_Turn) rfl .pk rfl (fun x76 hx76 => ?_))
      refine .nil (TQ.then (.seq (.region (.v (.assign (v := w32 0#32) rfl) (.nil (TQ.then (.ret ?_)))))))
      exact .ret results104 (.tmp rfl .nil) _ (by rw [unmapR_5 ho h2 h3 h4]; rfl) (by rw [unmapR_5 ho h2 h3 h4]; exact ((((Db.near.refl (D := D) (K := 0)).tk hx39).tk hx69).cut.turn).le (by decide)) (by rw [unmapR_5 ho h2 h3 h4]; exact .en)
   ·
    refine .alloc zeroValue224 rfl rfl (fun b6 => ?_)
    refine .nil (TS.back hk_ hs_ hl_ .pk ?_)
    refine .eff rfl (fun fu_ li_ hk_ hs_ hl_ => ?_)
    refine .call call141 (S_space_At) rfl .pk rfl (fun x39 hx39 => ?_)
    refine .nil (TS.back hk_ hs_ hl_ .pk ?_)
    refine .v rfl (.move rfl) (.v rfl (.extract rfl rfl) (.v rfl (.extract rfl rfl) (.eff rfl (fun fu_ li_ hk_ hs_ hl_ => ?_))))
    refine .storeAll (us := [_, _, _, _]) sizeOf224 rfl rfl rfl rfl .up rfl ?_
    refine .nil (TS.back hk_ hs_ hl_ .pk ?_)
    refine .v rfl (.assign rfl) (.done (TQ.then (.seq (.seq (.region (.v (.move rfl) (.v (.eql rfl rfl) (.nil (TQ.then ?_)))))))))
    first | refine .cond_dec rfl (fun h3 => ?_) (fun h3 => ?_) | refine .cond rfl (fun h3 => ?_) (fun h3 => ?_)
    ·
     refine .seq (.region (.v (.assign (v := w32 21#32) rfl) (.nil (TQ.then (.ret (.then_ret ?_))))))
     exact .ret results104 (.tmp rfl .nil) (D.tk x39) (by rw [unmapR_3 ho h2 h3]; rfl) (by rw [unmapR_3 ho h2 h3]; exact ((Db.near.refl (D := D) (K := 0)).tk hx39).le (by decide)) (by rw [unmapR_3 ho h2 h3]; exact .en)
    ·
     refine .skip (TQ.then (.seq (.seq (.region (.v (.move rfl) (.v (.neq rfl rfl) (.v (.move rfl) ?_)))))))
     refine' TL.orG (k := 10) (dj := 46) (d := 56) rfl ?_ ?_ ?_
     rotate_left
     ·
      intro g56 hd
      first | replace g56 := of_decide_eq_false g56 | skip
      refine .want rfl rfl (.v (.loadAgg (vs := [_, _, _, _]) isAgg224 sizeOf224 rfl .tk (by rfl) (by rfl)) ?_)
      refine .want rfl rfl (.v (.move rfl) (.want rfl rfl (.v (.build (cs := [.bool true, i64 (pg F)]) zeroValue39 pl_39_WSvc rfl rfl) ?_)))
      refine .want rfl rfl (.v (.field fo_218_1_WSvc rfl) (.want rfl rfl (.v (.load isAgg4 rfl .tk (by rfl)) ?_)))
      refine .want rfl rfl (.v (.field fo_218_2_WSvc rfl) (.want rfl rfl (.v (.load isAgg4 rfl .tk (by rfl)) ?_)))
      refine .want rfl rfl (.v (.build (cs := (⟨true, pg F, (parseM F.r2).1.wr, (parseM F.r2).1.ex⟩ : PMap).cells) zeroValue224 pl_224_WSvc rfl rfl) ?_)
      refine .want rfl rfl (.v (.neqAg eqGuardType224 isAgg224 sizeOf224 typeInfo224 rfl rfl (EqOk.struct underlying224 stoodInHeld224 typeInfo224 isAgg224 sizeOf224 rfl rfl (EqFs.cons (xs := [_, _]) (ys := [_, _]) (by decide) rfl (EqOk.struct underlying39 stoodInHeld39 typeInfo39 isAgg39 sizeOf39 rfl rfl (EqFs.cons (xs := [_]) (ys := [_]) (by decide) rfl (EqOk.bool underlying4 typeInfo4 isAgg4 sizeOf4) rfl (EqFs.cons (xs := [_]) (ys := [_]) (by decide) rfl (EqOk.int underlying3 typeInfo3 isAgg3 sizeOf3) rfl .nil))) rfl (EqFs.cons (xs := [_]) (ys := [_]) (by decide) rfl (EqOk.bool underlying4 typeInfo4 isAgg4 sizeOf4) rfl (EqFs.cons (xs := [_]) (ys := [_]) (by decide) rfl (EqOk.bool underlying4 typeInfo4 isAgg4 sizeOf4) rfl .nil))))) ?_)
      refine .v (.pick_false rfl rfl) (.nil ?_)
      exact .keep (Sub.cons rfl (Sub.push rfl (Sub.push rfl (Sub.push rfl (Sub.push rfl (Sub.push rfl (Sub.push rfl (Sub.push rfl (Sub.push rfl (Sub.push rfl (Sub.push rfl (Sub.pushSame hd Sub.rfl'))))))))))))
     ·
      intro g56 hd
      refine .skip rfl rfl rfl (.skip rfl rfl rfl (.skip rfl rfl rfl (.skip rfl rfl rfl (.skip rfl rfl rfl (.skip rfl rfl rfl (.skip rfl rfl rfl (.skip rfl rfl rfl (.skip rfl rfl rfl (.v (.pick_true rfl rfl) (.nil ?_))))))))))
      exact .keep (Sub.cons rfl (Sub.push rfl (Sub.push rfl (Sub.push rfl (Sub.push rfl (Sub.push rfl (Sub.push rfl (Sub.push rfl (Sub.push rfl (Sub.push rfl (Sub.push rfl (Sub.pushSame hd Sub.rfl'))))))))))))
     first | refine .boolOr ?_ | skip
     refine .nil (TQ.then ?_)
     first | refine .cond_dec rfl (fun h4 => ?_) (fun h4 => ?_) | refine .cond rfl (fun h4 => ?_) (fun h4 => ?_)
     ·
      replace h4 := ne_true (a := (atD D sp (parseM F.r2).1.va).1) (b := ⟨true, pg F, (parseM F.r2).1.wr, (parseM F.r2).1.ex⟩) h4
      refine .seq (.region (.v (.assign (v := w32 7#32) rfl) (.nil (TQ.then (.ret (.then_ret ?_))))))
      exact .ret results104 (.tmp rfl .nil) (D.tk x39) (by rw [unmapR_4 ho h2 h3 h4]; rfl) (by rw [unmapR_4 ho h2 h3 h4]; exact ((Db.near.refl (D := D) (K := 0)).tk hx39).le (by decide)) (by rw [unmapR_4 ho h2 h3 h4]; exact .en)
     ·
      replace h4 := ne_false (a := (atD D sp (parseM F.r2).1.va).1) (b := ⟨true, pg F, (parseM F.r2).1.wr, (parseM F.r2).1.ex⟩) h4
      refine .skip (TQ.then (.seq (.draw (H := [.row c _ _, .row b4 _ _]) (.q 0 (.q 1 (.q 2 (.q 3 (.q 4 (.q 5 (.q 6 (.q 7 (.q 8 (.q 9 (.q 10 (.q 11 (.e 12 .done))))))))))))) (by kernel_rfl) .pk (by kernel_rfl) (by kernel_rfl) (by kernel_rfl) ?_)))
      refine .v rfl (.move rfl) (.v rfl (.nilCheck rfl) (.v rfl (.field fo_138_0_WSvc rfl) (.v rfl (.field fo_136_0_WSvc rfl) (.v rfl (.load isAgg52 rfl .tk (by rfl)) ?_))))
      refine .v rfl (.move rfl) (.v rfl (.nilCheck rfl) (.v rfl (.field fo_138_0_WSvc rfl) (.v rfl (.field fo_136_1_WSvc rfl) (.v rfl (.load isAgg3 rfl .tk (by rfl)) ?_))))
      refine .v rfl (.field fo_218_0_WSvc rfl) (.v rfl (.load isAgg23 rfl .tk (by rfl)) ?_)
      refine .eff rfl (fun fu_ li_ hk_ hs_ hl_ => ?_)
      refine .call call142 (S_space_Cut) rfl .pk rfl (fun x69 hx69 => ?_)
      refine .nil (TS.back hk_ hs_ hl_ .pk ?_)
      refine .done (TQ.then (.seq (.region (.v (.move rfl) (.v (.nilCheck rfl) (.v (.field fo_138_0_WSvc rfl) (.v (.field fo_136_0_WSvc rfl) (.v (.load isAgg52 rfl .tk (by rfl)) ?_))))))))
      refine .v (.move rfl) (.call call24 (S_pagedb_DB_Turn) rfl .pk rfl (fun x76 hx76 => ?_))
      refine .nil (TQ.then (.seq (.region (.v (.assign (v := w32 0#32) rfl) (.nil (TQ.then (.ret ?_)))))))
      exact .ret results104 (.tmp rfl .nil) _ (by rw [unmapR_5 ho h2 h3 h4]; rfl) (by rw [unmapR_5 ho h2 h3 h4]; exact ((((Db.near.refl (D := D) (K := 0)).tk hx39).tk hx69).cut.turn).le (by decide)) (by rw [unmapR_5 ho h2 h3 h4]; exact .en)

set_option maxHeartbeats 1000000 in
theorem S_svc_asked_addTable {c d m : Nat} {D : Db} {sp tb : Int} {F : File} {K : S8} {v : Value} : Spec prog 105 [ptr c].toArray [DbA d m D, AskR c d sp tb F K v] (fun x : Db => D.near x (growR D sp tb F).db 1031) (fun x => w32 (growR D sp tb F).code) (fun x => [DbA d m x, AskR c d sp tb (growR D sp tb F).f K v]) := by
 refine Spec.body func105 rfl ntmps105 rfl (fun σ R => ?_)
 refine .seq (.region (.v (.assign (v := w32 0#32) rfl) (.nil (TQ.then (.seq (.region (.v (.move rfl) (.v (.nilCheck rfl) (.v (.field fo_138_0_WSvc rfl) (.call call137 (S_svc_scene_page) rfl .pk rfl (fun x10 hx10 => ?_)))))))))))
 refine .v (.assign rfl) (.nil (TQ.then (.seq (.seq (.region (.v (.move rfl) (.v (.lss rfl rfl) (.nil (TQ.then ?_)))))))))
 first | refine .cond_dec rfl (fun h1 => ?_) (fun h1 => ?_) | refine .cond rfl (fun h1 => ?_) (fun h1 => ?_)
 ·
  refine .seq (.region (.v (.assign (v := w32 18#32) rfl) (.nil (TQ.then (.ret (.then_ret ?_))))))
  exact .ret results105 (.tmp rfl .nil) D (by rw [growR_1 (pgV_neg h1)]; rfl) (by rw [growR_1 (pgV_neg h1)]; exact .refl) (by rw [growR_1 (pgV_neg h1)]; exact .en)
 ·
  obtain ⟨ho, hpg⟩ := pgV_pos h1
  rw [hpg]
  refine .skip (TQ.then (.seq (.region (.v (.move rfl) (.v (.nilCheck rfl) (.v (.field fo_138_0_WSvc rfl) (.v (.field fo_136_3_WSvc rfl) (.v (.field fo_37_0_WSvc rfl) (.v (.ixArr1 underlying35 sizeOf23 rfl rfl (by decide)) ?_)))))))))
  refine .v (.load isAgg23 rfl .tk (by rfl)) ?_
  refine .v (.assign rfl) (.nil (TQ.then (.seq (.seq (.region (.v (.move rfl) (.v (.gtr32 (b := 255#32) rfl rfl) ?_)))))))
  refine .nil (TQ.then ?_)
  first | refine .cond_dec rfl (fun h2 => ?_) (fun h2 => ?_) | refine .cond rfl (fun h2 => ?_) (fun h2 => ?_)
  ·
   refine .seq (.region (.v (.assign (v := w32 16#32) rfl) (.nil (TQ.then (.ret (.then_ret ?_))))))
   exact .ret results105 (.tmp rfl .nil) D (by rw [growR_2 ho h2]; rfl) (by rw [growR_2 ho h2]; exact .refl) (by rw [growR_2 ho h2]; exact .en)
  ·
   refine .skip (TQ.then (.seq (.seq (.draw (H := [.row c _ _]) (.q 0 (.q 1 (.q 2 (.q 3 (.q 4 (.q 6 (.q 7 (.q 8 (.q 9 (.q 10 (.q 11 (.q 12 (.q 13 (.e 5 (.e 14 (.q 15 (.q 16 (.q 17 (.q 18 (.q 19 .done)))))))))))))))))))) (by kernel_rfl) .pk (by kernel_rfl) (by kernel_rfl) (by kernel_rfl) ?_))))
   refine .v rfl (.move rfl) (.v rfl (.nilCheck rfl) (.v rfl (.field fo_138_0_WSvc rfl) (.v rfl (.field fo_136_0_WSvc rfl) (.v rfl (.load isAgg52 rfl .tk (by rfl)) ?_))))
   refine .v rfl (.move rfl) (.v rfl (.nilCheck rfl) (.v rfl (.field fo_138_0_WSvc rfl) (.v rfl (.field fo_136_2_WSvc rfl) (.v rfl (.load isAgg3 rfl .tk (by rfl)) ?_))))
   refine .v rfl (.build (cs := [_, _]) zeroValue39 pl_39_WSvc rfl rfl) ?_
   refine .v rfl (.move rfl) (.v rfl (.conv_32_64 underlying23 underlying3 rfl) ?_)
   refine .eff rfl (fun fu_ li_ hk_ hs_ hl_ => ?_)
   refine .call call130 (S_MemoryD) rfl .pk rfl (fun x28 hx28 => ?_)
   refine .nil (TS.back hk_ hs_ hl_ .pk ?_)
   refine .eff rfl (fun fu_ li_ hk_ hs_ hl_ => ?_)
   refine .call call135 (S_ReadD) rfl .pk rfl (fun x37 hx37 => ?_)
   refine .nil (TS.back hk_ hs_ hl_ .pk ?_)
   refine .v rfl (.move rfl) (.v rfl (.extract rfl rfl) (.v rfl (.extract rfl rfl) (.v rfl (.assign rfl) (.v rfl (.assign rfl) (.done (TQ.then (.seq (.region (.v (.move rfl) (.v (.neq32 (b := 0#32) rfl rfl) ?_))))))))))
   refine .nil (TQ.then ?_)
   first | refine .cond_dec rfl (fun h3 => ?_) (fun h3 => ?_) | refine .cond rfl (fun h3 => ?_) (fun h3 => ?_)
   ·
    refine .seq (.region (.v (.assign (v := w32 7#32) rfl) (.nil (TQ.then (.ret (.then_ret ?_))))))
    exact .ret results105 (.tmp rfl .nil) (D.tk (rdT D.mem true tb (F.r2.toNat : Int))) (by rw [growR_3 ho h2 h3]; rfl) (by rw [growR_3 ho h2 h3]; exact ((Db.near.refl (D := D) (K := 0)).tk rdT_le).le (by decide)) (by rw [growR_3 ho h2 h3]; exact .en)
   ·
    refine .skip (TQ.then (.seq (.region (.v (.move rfl) (.v (.nilCheck rfl) (.v (.field fo_138_0_WSvc rfl) (.v (.field fo_136_0_WSvc rfl) (.v (.load isAgg52 rfl .tk (by rfl)) ?_))))))))
    refine .v (.move rfl) (.call call24 (S_pagedb_DB_Turn) rfl .pk rfl (fun x48 hx48 => ?_))
    refine .nil (TQ.then (.seq (.draw (H := [.row c _ _]) (.q 0 (.q 1 (.q 2 (.q 3 (.q 4 (.q 5 (.q 6 (.q 7 (.q 8 (.q 9 (.q 10 (.q 11 (.q 12 (.e 13 .done)))))))))))))) (by kernel_rfl) .pk (by kernel_rfl) (by kernel_rfl) (by kernel_rfl) ?_)))
    refine .v rfl (.move rfl) (.v rfl (.nilCheck rfl) (.v rfl (.field fo_138_0_WSvc rfl) (.v rfl (.field fo_136_0_WSvc rfl) (.v rfl (.load isAgg52 rfl .tk (by rfl)) ?_))))
    refine .v rfl (.move rfl) (.v rfl (.nilCheck rfl) (.v rfl (.field fo_138_0_WSvc rfl) (.v rfl (.field fo_136_1_WSvc rfl) (.v rfl (.load isAgg3 rfl .tk (by rfl)) ?_))))
    refine .v rfl (.move rfl) (.v rfl (.conv_32_64 underlying23 underlying3 rfl) ?_)
    refine .v rfl (.move rfl) (.eff rfl (fun fu_ li_ hk_ hs_ hl_ => ?_))
    refine .call call143 (S_space_AddTable) rfl .pk rfl (fun x62 hx62 => ?_)
    refine .nil (TS.back hk_ hs_ hl_ .pk ?_)
    refine .done (TQ.then (.seq (.region (.v (.assign (v := w32 0#32) rfl) (.nil (TQ.then (.ret ?_)))))))
    exact .ret results105 (.tmp rfl .nil) _ (by rw [growR_4 ho h2 h3]; rfl) (by rw [growR_4 ho h2 h3]; exact ((((Db.near.refl (D := D) (K := 0)).tk (rdT_le (M := D.mem) (s := true) (p := tb) (o := (F.r2.toNat : Int)))).turn.tk hx62).addT).le (by decide)) (by rw [growR_4 ho h2 h3]; exact .en)

set_option maxHeartbeats 400000 in
theorem S_svc_Draw {S : List (List W)} {us : List Value} {v : Value} {A : Assn} {b t : Int} (hR : Rd2 A v us S) : Spec prog 12 [v, i64 b, i64 t].toArray [A] (fun _ : Unit => True) (fun _ => w32 (drawM S b t)) (fun _ => [A]) := by
 refine Spec.body func12 rfl ntmps12 rfl (fun σ R => ?_)
 obtain ⟨u, s, hus⟩ := hR.at b
 have hul := hR.len
 refine .shpR hR.out .tk (fun hSv => ?_)
 refine .shpI (v := u) (us := w32s s) (fun hp => (hus hp).2.2) .tk (fun hSu => ?_)
 rw [w32s_length] at hSu
 refine .seq (.region (.v (.assign (v := w32 0#32) rfl) (.nil (TQ.then (.seq (.seq (.region (.v (.move rfl) (.v (.lss rfl rfl) (.v (.move rfl) ?_))))))))))
 refine' TL.orG (k := 5) (dj := 9) (d := 14) rfl ?_ ?_ ?_
 rotate_left
 ·
  intro g14 hd
  first | replace g14 := of_decide_eq_false g14 | skip
  refine .want rfl rfl (.v (.move rfl) (.want rfl rfl (.v (.move rfl) (.want rfl rfl (.v (.lenS underlying25 rfl hSv) ?_)))))
  refine .want rfl rfl (.v (.geq rfl rfl) (.v (.pick_false rfl rfl) (.nil ?_)))
  exact .keep (Sub.cons rfl (Sub.push rfl (Sub.push rfl (Sub.push rfl (Sub.push rfl (Sub.push rfl (Sub.pushSame hd Sub.rfl')))))))
 ·
  intro g14 hd
  refine .skip rfl rfl rfl (.skip rfl rfl rfl (.skip rfl rfl rfl (.skip rfl rfl rfl (.v (.pick_true rfl rfl) (.nil ?_)))))
  exact .keep (Sub.cons rfl (Sub.push rfl (Sub.push rfl (Sub.push rfl (Sub.push rfl (Sub.push rfl (Sub.pushSame hd Sub.rfl')))))))
 first | refine .boolOr ?_ | skip
 refine .v (.move rfl) ?_
 refine' TL.orG (k := 3) (dj := 15) (d := 18) rfl ?_ ?_ ?_
 rotate_left
 ·
  intro g18 hd
  first | replace g18 := of_decide_eq_false g18 | skip
  refine .want rfl rfl (.v (.move rfl) (.want rfl rfl (.v (.lss rfl rfl) (.v (.pick_false rfl rfl) (.nil ?_)))))
  exact .keep (Sub.cons rfl (Sub.push rfl (Sub.push rfl (Sub.push rfl (Sub.pushSame hd Sub.rfl')))))
 ·
  intro g18 hd
  refine .skip rfl rfl rfl (.skip rfl rfl rfl (.v (.pick_true rfl rfl) (.nil ?_)))
  exact .keep (Sub.cons rfl (Sub.push rfl (Sub.push rfl (Sub.push rfl (Sub.pushSame hd Sub.rfl')))))
 first | refine .boolOr ?_ | skip
 refine .v (.move rfl) ?_
 refine' TL.orG (k := 8) (dj := 19) (d := 27) rfl ?_ ?_ ?_
 rotate_left
 ·
  intro g27 hd
  first | replace g27 := of_decide_eq_false g27 | skip
  have hb : 0 ≤ b ∧ b < us.length := by omega
  obtain ⟨hu1, hu2, hu3⟩ := hus hb
  replace hSu := hSu hb
  refine .want rfl rfl (.v (.move rfl) (.want rfl rfl (.v (.move rfl) (.want rfl rfl (.v (.move rfl) (.want rfl rfl (.v (.ixS underlying25 sizeOf31 hSv rfl rfl hb) ?_)))))))
  refine .want rfl rfl (.v (.loadE isAgg31 rfl .tk hR.out hu1) ?_)
  refine .want rfl rfl (.v (.lenS underlying31 rfl hSu) ?_)
  refine .want rfl rfl (.v (.geq rfl rfl) (.v (.pick_false rfl rfl) (.nil ?_)))
  exact .keep (Sub.cons rfl (Sub.push rfl (Sub.push rfl (Sub.push rfl (Sub.push rfl (Sub.push rfl (Sub.push rfl (Sub.push rfl (Sub.push rfl (Sub.pushSame hd Sub.rfl'))))))))))
 ·
  intro g27 hd
  refine .skip rfl rfl rfl (.skip rfl rfl rfl (.skip rfl rfl rfl (.skip rfl rfl rfl (.skip rfl rfl rfl (.skip rfl rfl rfl (.skip rfl rfl rfl (.v (.pick_true rfl rfl) (.nil ?_))))))))
  exact .keep (Sub.cons rfl (Sub.push rfl (Sub.push rfl (Sub.push rfl (Sub.push rfl (Sub.push rfl (Sub.push rfl (Sub.push rfl (Sub.push rfl (Sub.pushSame hd Sub.rfl'))))))))))
 first | refine .boolOr ?_ | skip
 refine .nil (TQ.then ?_)
 first | refine .cond_dec rfl (fun h1 => ?_) (fun h1 => ?_) | refine .cond rfl (fun h1 => ?_) (fun h1 => ?_)
 ·
  refine .seq (.region (.v (.assign (v := w32 0#32) rfl) (.nil (TQ.then (.ret (.then_ret ?_))))))
  exact .ret results12 (.tmp rfl .nil) () (by rw [draw_none hR hus h1]; rfl) trivial .en
 ·
  have hb : 0 ≤ b ∧ b < us.length := by omega
  obtain ⟨hu1, hu2, hu3⟩ := hus hb
  replace hSu := hSu hb
  refine .skip (TQ.then (.seq (.region (.v (.move rfl) (.v (.move rfl) (.v (.ixS underlying25 sizeOf31 hSv rfl rfl hb) ?_))))))
  refine .v (.loadE isAgg31 rfl .tk hR.out hu1) ?_
  refine .v (.move rfl) (.v (.ixS underlying31 sizeOf23 hSu rfl rfl (by omega)) ?_)
  refine .v (.loadE isAgg23 rfl .tk hu3 (w32s_get (wAt_get (i := t.toNat) (by omega)))) ?_
  refine .v (.assign rfl) (.nil (TQ.then (.ret ?_)))
  exact .ret results12 (.tmp rfl .nil) () (by rw [drawM_at hb.1 hu2 (by omega)]; rfl) trivial .en

theorem fo_138_2_WSvc : FieldOff prog 138 2 30 := FieldOff.of 25 1 underlying138 rfl sizeOf25 rfl
set_option maxHeartbeats 1000000 in
theorem S_svc_asked_random {c d m : Nat} {D : Db} {sp tb : Int} {F : File} {K : S8} {v : Value} {S : List (List W)} {us : List Value} {A : Assn} (hR : Rd2 A v us S) : Spec prog 106 [ptr c].toArray [DbA d m D, AskR c d sp tb F K v, A] (fun x : Db => D.near x (randR S D sp F).db 3) (fun x => w32 (randR S D sp F).code) (fun x => [DbA d m x, AskR c d sp tb (randR S D sp F).f K v, A]) := by
 refine Spec.body func106 rfl ntmps106 rfl (fun σ R => ?_)
 refine .seq (.region (.v (.assign (v := w32 0#32) rfl) (.nil (TQ.then (.seq (.draw (H := []) (.q 0 (.q 1 (.q 2 (.q 4 (.q 5 (.q 6 (.e 3 (.e 7 (.q 8 (.q 9 .done)))))))))) (by kernel_rfl) .pk (by kernel_rfl) (by kernel_rfl) (by kernel_rfl) ?_))))))
 refine .v rfl (.move rfl) (.v rfl (.nilCheck rfl) (.v rfl (.field fo_138_0_WSvc rfl) (.v rfl (.move rfl) (.v rfl (.nilCheck rfl) (.v rfl (.field fo_138_0_WSvc rfl) (.eff rfl (fun fu_ li_ hk_ hs_ hl_ => ?_)))))))
 refine .call call144 (S_svc_scene_read) rfl .pk rfl (fun x8 hx8 => ?_)
 refine .nil (TS.back hk_ hs_ hl_ .pk ?_)
 refine .eff rfl (fun fu_ li_ hk_ hs_ hl_ => ?_)
 refine .call call144 (S_svc_scene_read) rfl .pk rfl (fun x12 hx12 => ?_)
 refine .nil (TS.back hk_ hs_ hl_ .pk ?_)
 refine .v rfl (.assign rfl) (.v rfl (.assign rfl) (.done (TQ.then (.seq ?_))))
 rw [show (D.tk (rdT D.mem true sp 1)).pk sp 2 = D.pk sp 2 from Db.tk_pk]
 refine .drawK (H := [.ex fun FF : File => .row c (AskL d sp tb FF K v) 138]) (.q 0 (.q 1 (.q 2 (.q 3 (.q 4 (.q 5 (.q 6 (.q 7 (.q 8 (.q 10 (.q 11 (.q 12 (.q 13 (.e 9 (.q 14 (.e 15 .done)))))))))))))))) (by kernel_rfl) (Knows.exRow (l := fun FF : File => AskL d sp tb FF K v) _ .tk rfl) (by kernel_rfl) (by kernel_rfl) (by kernel_rfl) ?_
 refine .v rfl (.move rfl) (.v rfl (.move rfl) (.v rfl (.nilCheck rfl) (.v rfl (.field fo_138_2_WSvc rfl) (.v rfl (.loadEx (l := fun FF : File => AskL d sp tb FF K v) (v := v) isAgg25 rfl .tk (fun y => rfl)) ?_))))
 refine .v rfl (.move rfl) (.v rfl (.conv_32_64 underlying23 underlying3 rfl) ?_)
 refine .v rfl (.move rfl) (.v rfl (.conv_32_64 underlying23 underlying3 rfl) ?_)
 refine .v rfl (.nilCheck rfl) (.v rfl (.field fo_138_0_WSvc rfl) (.v rfl (.field fo_136_3_WSvc rfl) (.v rfl (.field fo_37_0_WSvc rfl) (.eff rfl (fun fu_ li_ hk_ hs_ hl_ => ?_)))))
 refine .call call12 (S_svc_Draw hR) rfl .pk rfl (fun x22 hx22 => ?_)
 refine .nil (TS.backK hk_ hs_ hl_ (Knows.exRow (l := fun FF : File => AskL d sp tb FF K v) _ .tk rfl) ?_)
 refine .v rfl (.ixArr1 underlying35 sizeOf23 rfl rfl (by decide)) ?_
 refine .eff rfl (fun fu_ li_ hk_ hs_ hl_ => ?_)
 refine .storeTo (new := AskL d sp tb { F with r1 := drawM S ((D.pk sp 1).toNat : Int) ((D.pk sp 2).toNat : Int) } K v) sizeOf23 rfl rfl rfl .up rfl (by show 4 < 31; decide) ?_
 refine .nil (TS.backK hk_ hs_ hl_ (Knows.exRow (l := fun FF : File => AskL d sp tb FF K v) _ .tk rfl) ?_)
 refine .done (TQ.then (.seq (.seq (.region (.v (.move rfl) (.v (.lss32 (b := 4096#32) rfl rfl) ?_))))))
 refine .nil (TQ.then ?_)
 first | refine .cond_dec rfl (fun h1 => ?_) (fun h1 => ?_) | refine .cond rfl (fun h1 => ?_) (fun h1 => ?_)
 ·
  refine .draw (H := [.row c _ _]) (.q 0 (.q 1 (.q 2 (.q 3 (.q 4 (.q 6 (.q 7 (.q 8 (.q 9 (.q 10 (.q 11 (.q 12 (.q 13 (.e 5 (.e 14 .done))))))))))))))) (by kernel_rfl) .pk (by kernel_rfl) (by kernel_rfl) (by kernel_rfl) ?_
  refine .v rfl (.move rfl) (.v rfl (.nilCheck rfl) (.v rfl (.field fo_138_0_WSvc rfl) (.v rfl (.field fo_136_0_WSvc rfl) (.v rfl (.load isAgg52 rfl .tk (by rfl)) ?_))))
  refine .v rfl (.move rfl) (.v rfl (.nilCheck rfl) (.v rfl (.field fo_138_0_WSvc rfl) (.v rfl (.field fo_136_1_WSvc rfl) (.v rfl (.load isAgg3 rfl .tk (by rfl)) ?_))))
  refine .v rfl (.build (cs := [_, _]) zeroValue39 pl_39_WSvc rfl rfl) ?_
  refine .v rfl (.move rfl) (.v rfl (.add32 (b := 1#32) rfl rfl) (.eff rfl (fun fu_ li_ hk_ hs_ hl_ => ?_)))
  refine .call call130 (S_MemoryD) rfl .pk rfl (fun x35 hx35 => ?_)
  refine .nil (TS.back hk_ hs_ hl_ .pk ?_)
  refine .eff rfl (fun fu_ li_ hk_ hs_ hl_ => ?_)
  refine .call call35 (S_WriteD) rfl .pk rfl (fun x44 hx44 => ?_)
  refine .nil (TS.back hk_ hs_ hl_ .pk ?_)
  refine .done (TQ.then (.seq (.region (.v (.assign (v := w32 0#32) rfl) (.nil (TQ.then (.ret ?_)))))))
  exact .ret results106 (.tmp rfl .nil) (((D.tk (rdT D.mem true sp 1)).tk (rdT (D.tk (rdT D.mem true sp 1)).mem true sp 2)).wr sp 2 (D.pk sp 2 + 1#32)) rfl (by rw [randR, if_pos (show (D.pk sp 2).toNat < 4096 from h1)]; exact (((Db.near.refl (D := D) (K := 0)).tk (rdT_le (M := D.mem) (s := true) (p := sp) (o := 1))).tk rdT_le).wr) .en
 ·
  refine .skip (TQ.then (.seq (.region (.v (.assign (v := w32 0#32) rfl) (.nil (TQ.then (.ret ?_)))))))
  exact .ret results106 (.tmp rfl .nil) ((D.tk (rdT D.mem true sp 1)).tk (rdT (D.tk (rdT D.mem true sp 1)).mem true sp 2)) rfl (by rw [randR, if_neg (show ¬ (D.pk sp 2).toNat < 4096 from h1)]; exact (((Db.near.refl (D := D) (K := 0)).tk (rdT_le (M := D.mem) (s := true) (p := sp) (o := 1))).tk rdT_le).le (by decide)) .en
end Go.Wd
