/- PROVED HERE: contracts of functions of the program, walked: each returns what the plain model says, for all items that its precondition names. No condition beyond each theorem's own. -/
import Derived.Test.YtkpomphooljgmaaGreatDoorProg
import Derived.Test.YtkpomphooljgmaaGreatDoorModel
import Derived.Test.YtkpomphooljgmaaGreatDoorPk
import Derived.Test.YtkpomphooljgmaaGreatDoorBase6
import Derived.Test.YtkpomphooljgmaaGreatDoorMSvc3
import Derived.Test.YtkpomphooljgmaaGreatDoorWRef14
import Derived.Test.YtkpomphooljgmaaGreatDoorWRefMac
namespace Go.Wd
open Go Go.Proofs Go.Proofs.Tryz
abbrev RAskL (d : Nat) (sp tb : Int) (F : File) : List Value := [ptr d, i64 sp, i64 tb, w32 F.r0, w32 F.r1, w32 F.r2, w32 F.r3, w32 F.r4, w32 F.r5, w32 F.r6, w32 F.r7, w32 F.r8, w32 F.r9, w32 F.r10, w32 F.r11, w32 F.r12, w32 F.r13, w32 F.r14, w32 F.pc, .bool F.z, .bool F.n, .bool F.l]
abbrev RAskR (a d : Nat) (sp tb : Int) (F : File) : Assn := .row a (RAskL d sp tb F) 149
theorem RDbA.ptrX {d m : Nat} {w : World} (h : Holds (.ex fun DD : Db => RDbA d m DD) w) : w.cell? ⟨d, 0, none⟩ = some (Wd.ptr m) := by
 obtain ⟨F, DD, h⟩ := h
 exact RDbA.ptr ⟨F, h⟩

set_option maxHeartbeats 400000 in
theorem S_wardenref19_Cost {n : W} : Spec prog 11 [w32 n].toArray [] (fun _ : Unit => True) (fun _ => i64 (if 1 ≤ n.toNat ∧ n.toNat ≤ 5 then 64 else 1)) (fun _ => []) := by
 refine Spec.body func11 rfl ntmps11 rfl (fun σ R => ?_)
 refine .seq (.region (.v (.assign rfl) (.nil (TQ.then (.seq (.seq (.region (.v (.move rfl) (.v (.geq32 (b := 1#32) rfl rfl) ?_)))))))))
 refine .v (.move rfl) ?_
 refine' TL.andG (k := 3) (dj := 5) (d := 8) rfl ?_ ?_ ?_
 rotate_left
 ·
  intro g8 hd
  first | replace g8 := of_decide_eq_true g8 | skip
  refine .want rfl rfl (.v (.move rfl) (.want rfl rfl (.v (.leq32 (b := 5#32) rfl rfl) ?_)))
  refine .v (.pick_true rfl rfl) (.nil ?_)
  exact .keep (Sub.cons rfl (Sub.push rfl (Sub.push rfl (Sub.push rfl (Sub.pushSame hd Sub.rfl')))))
 ·
  intro g8 hd
  refine .skip rfl rfl rfl (.skip rfl rfl rfl (.v (.pick_false rfl rfl) (.nil ?_)))
  exact .keep (Sub.cons rfl (Sub.push rfl (Sub.push rfl (Sub.push rfl (Sub.pushSame hd Sub.rfl')))))
 first | refine .boolAnd ?_ | skip
 refine .nil (TQ.then ?_)
 first | refine .cond_dec rfl (fun h1 => ?_) (fun h1 => ?_) | refine .cond rfl (fun h1 => ?_) (fun h1 => ?_)
 ·
  refine .seq (.region (.v (.assign rfl) (.nil (TQ.then (.ret (.then_ret ?_))))))
  exact .ret results11 (.tmp rfl .nil) () (by rw [if_pos (show 1 ≤ n.toNat ∧ n.toNat ≤ 5 from h1)]; rfl) trivial .en
 ·
  refine .skip (TQ.then (.seq (.region (.v (.assign rfl) (.nil (TQ.then (.ret ?_)))))))
  exact .ret results11 (.tmp rfl .nil) () (by rw [if_neg (show ¬ (1 ≤ n.toNat ∧ n.toNat ≤ 5) from h1)]; rfl) trivial .en

set_option maxHeartbeats 400000 in
theorem S_wardenref19_Draw {S : List (List W)} {us : List Value} {v : Value} {A : Assn} {b t : Int} (hR : Rd2 A v us S) : Spec prog 13 [v, i64 b, i64 t].toArray [A] (fun _ : Unit => True) (fun _ => w32 (drawM S b t)) (fun _ => [A]) := by
 refine Spec.body func13 rfl ntmps13 rfl (fun σ R => ?_)
 obtain ⟨u, s, hus⟩ := hR.at b
 have hul := hR.len
 refine .shpR hR.out .tk (fun hSv => ?_)
 refine .shpI (v := u) (us := w32s s) (fun hp => (hus hp).2.2) .tk (fun hSu => ?_)
 rw [w32s_length] at hSu
 refine .seq (.region (.v (.assign (v := w32 0#32) rfl) (.nil (TQ.then (.seq (.seq (.region (.v (.move rfl) (.v (.lss rfl rfl) (.v (.move rfl) ?_))))))))))
 refine' TL.orG (k := 5) (dj := 9) (d := 14) rfl ?_ ?_ ?_
 rotate_left
 ·
  intro g14 hd
  first | replace g14 := of_decide_eq_false g14 | skip
  refine .want rfl rfl (.v (.move rfl) (.want rfl rfl (.v (.move rfl) (.want rfl rfl (.v (.lenS underlying25 rfl hSv) ?_)))))
  refine .want rfl rfl (.v (.geq rfl rfl) (.v (.pick_false rfl rfl) (.nil ?_)))
  exact .keep (Sub.cons rfl (Sub.push rfl (Sub.push rfl (Sub.push rfl (Sub.push rfl (Sub.push rfl (Sub.pushSame hd Sub.rfl')))))))
 ·
  intro g14 hd
  refine .skip rfl rfl rfl (.skip rfl rfl rfl (.skip rfl rfl rfl (.skip rfl rfl rfl (.v (.pick_true rfl rfl) (.nil ?_)))))
  exact .keep (Sub.cons rfl (Sub.push rfl (Sub.push rfl (Sub.push rfl (Sub.push rfl (Sub.push rfl (Sub.pushSame hd Sub.rfl')))))))
 first | refine .boolOr ?_ | skip
 refine .v (.move rfl) ?_
 refine' TL.orG (k := 3) (dj := 15) (d := 18) rfl ?_ ?_ ?_
 rotate_left
 ·
  intro g18 hd
  first | replace g18 := of_decide_eq_false g18 | skip
  refine .want rfl rfl (.v (.move rfl) (.want rfl rfl (.v (.lss rfl rfl) (.v (.pick_false rfl rfl) (.nil ?_)))))
  exact .keep (Sub.cons rfl (Sub.push rfl (Sub.push rfl (Sub.push rfl (Sub.pushSame hd Sub.rfl')))))
 ·
  intro g18 hd
  refine .skip rfl rfl rfl (.skip rfl rfl rfl (.v (.pick_true rfl rfl) (.nil ?_)))
  exact .keep (Sub.cons rfl (Sub.push rfl (Sub.push rfl (Sub.push rfl (Sub.pushSame hd Sub.rfl')))))
 first | refine .boolOr ?_ | skip
 refine .v (.move rfl) ?_
 refine' TL.orG (k := 8) (dj := 19) (d := 27) rfl ?_ ?_ ?_
 rotate_left
 ·
  intro g27 hd
  first | replace g27 := of_decide_eq_false g27 | skip
  have hb : 0 ≤ b ∧ b < us.length := by omega
  obtain ⟨hu1, hu2, hu3⟩ := hus hb
  replace hSu := hSu hb
  refine .want rfl rfl (.v (.move rfl) (.want rfl rfl (.v (.move rfl) (.want rfl rfl (.v (.move rfl) (.want rfl rfl (.v (.ixS underlying25 sizeOf31 hSv rfl rfl hb) ?_)))))))
  refine .want rfl rfl (.v (.loadE isAgg31 rfl .tk hR.out hu1) ?_)
  refine .want rfl rfl (.v (.lenS underlying31 rfl hSu) ?_)
  refine .want rfl rfl (.v (.geq rfl rfl) (.v (.pick_false rfl rfl) (.nil ?_)))
  exact .keep (Sub.cons rfl (Sub.push rfl (Sub.push rfl (Sub.push rfl (Sub.push rfl (Sub.push rfl (Sub.push rfl (Sub.push rfl (Sub.push rfl (Sub.pushSame hd Sub.rfl'))))))))))
 ·
  intro g27 hd
  refine .skip rfl rfl rfl (.skip rfl rfl rfl (.skip rfl rfl rfl (.skip rfl rfl rfl (.skip rfl rfl rfl (.skip rfl rfl rfl (.skip rfl rfl rfl (.v (.pick_true rfl rfl) (.nil ?_))))))))
  exact .keep (Sub.cons rfl (Sub.push rfl (Sub.push rfl (Sub.push rfl (Sub.push rfl (Sub.push rfl (Sub.push rfl (Sub.push rfl (Sub.push rfl (Sub.pushSame hd Sub.rfl'))))))))))
 first | refine .boolOr ?_ | skip
 refine .nil (TQ.then ?_)
 first | refine .cond_dec rfl (fun h1 => ?_) (fun h1 => ?_) | refine .cond rfl (fun h1 => ?_) (fun h1 => ?_)
 ·
  refine .seq (.region (.v (.assign (v := w32 0#32) rfl) (.nil (TQ.then (.ret (.then_ret ?_))))))
  exact .ret results13 (.tmp rfl .nil) () (by rw [draw_none hR hus h1]; rfl) trivial .en
 ·
  have hb : 0 ≤ b ∧ b < us.length := by omega
  obtain ⟨hu1, hu2, hu3⟩ := hus hb
  replace hSu := hSu hb
  refine .skip (TQ.then (.seq (.region (.v (.move rfl) (.v (.move rfl) (.v (.ixS underlying25 sizeOf31 hSv rfl rfl hb) ?_))))))
  refine .v (.loadE isAgg31 rfl .tk hR.out hu1) ?_
  refine .v (.move rfl) (.v (.ixS underlying31 sizeOf23 hSu rfl rfl (by omega)) ?_)
  refine .v (.loadE isAgg23 rfl .tk hu3 (w32s_get (wAt_get (i := t.toNat) (by omega)))) ?_
  refine .v (.assign rfl) (.nil (TQ.then (.ret ?_)))
  exact .ret results13 (.tmp rfl .nil) () (by rw [drawM_at hb.1 hu2 (by omega)]; rfl) trivial .en

theorem pl_78_WRef19 : Places prog 78 [(0, 1), (1, 1)] := ⟨_, underlying78, fun w => by simp [sizeOf3, sizeOf4]⟩
set_option maxHeartbeats 400000 in
theorem S_wardenref19_frame {p : Int} : Spec prog 122 [i64 p].toArray [] (fun _ : Unit => True) (fun _ => .agg #[.bool true, i64 p]) (fun _ => []) := by
 refine Spec.body func122 rfl ntmps122 rfl (fun σ R => ?_)
 refine .seq (.region (.alloc zeroValue78 rfl rfl (fun b2 => ?_)))
 refine .nil (TQ.then (.seq (.region (.v (.move rfl) (.v (.build (cs := [_, _]) zeroValue78 pl_78_WRef19 rfl rfl) ?_)))))
 refine .storeAll (us := [_, _]) sizeOf78 rfl rfl rfl rfl .up rfl ?_
 refine .nil (TQ.then (.ret ?_))
 exact .ret results122 (.agg isAgg78 sizeOf78 rfl .tk (by rfl) (by rfl) .nil) () (by first | rfl | simp [tup, *]) trivial .en

theorem fo_76_0_WRef19 : FieldOff prog 76 0 0 := FieldOff.of 54 1 underlying76 rfl sizeOf54 rfl
theorem fo_149_0_WRef19 : FieldOff prog 149 0 0 := FieldOff.of 57 1 underlying149 rfl sizeOf57 rfl
theorem fo_149_1_WRef19 : FieldOff prog 149 1 1 := FieldOff.of 3 1 underlying149 rfl sizeOf3 rfl
set_option maxHeartbeats 400000 in
theorem S_wardenref19_Asked_word {a d m : Nat} {D : Db} {sp tb : Int} {F : File} {o : Int} : Spec prog 124 [ptr a, i64 o].toArray [RDbA d m D, RAskR a d sp tb F] (fun _ : Unit => True) (fun _ => w32 (D.pk sp o)) (fun _ => [RDbA d m (D.tk (rdT D.mem true sp o)), RAskR a d sp tb F]) := by
 refine Spec.body func124 rfl ntmps124 rfl (fun σ R => ?_)
 refine .seq (.region (.v (.assign (v := w32 0#32) rfl) (.nil (TQ.then (.seq (.drawK (H := [.ex fun DD : Db => RDbA d m DD, .row a _ _]) (.q 0 (.q 1 (.q 2 (.q 3 (.q 4 (.q 5 (.q 6 (.q 7 (.q 8 (.q 9 (.q 10 (.q 12 (.e 11 (.e 13 (.q 14 (.q 15 (.q 16 (.q 17 (.q 18 .done))))))))))))))))))) (by kernel_rfl) (Knows.pickEx (A := fun DD : Db => RDbA d m DD) .pk) (by kernel_rfl) (by kernel_rfl) (by kernel_rfl) ?_))))))
 refine .v rfl (.move rfl) (.v rfl (.nilCheck rfl) (.v rfl (.field fo_149_0_WRef19 rfl) (.v rfl (.load isAgg57 rfl .tk (by rfl)) ?_)))
 refine .v rfl (.nilCheck rfl) (.v rfl (.field fo_76_0_WRef19 rfl) (.v rfl (.loadC isAgg54 rfl .tk (fun w hw => RDbA.ptrX hw)) ?_))
 refine .v rfl (.move rfl) (.v rfl (.nilCheck rfl) (.v rfl (.field fo_149_1_WRef19 rfl) (.v rfl (.load isAgg3 rfl .tk (by rfl)) ?_)))
 refine .v rfl (.move rfl) (.eff rfl (fun fu_ li_ hk_ hs_ hl_ => ?_))
 refine .call call122 (S_wardenref19_frame) rfl .pk rfl (fun x19 hx19 => ?_)
 refine .nil (TS.backK hk_ hs_ hl_ (Knows.pickEx (A := fun DD : Db => RDbA d m DD) .pk) ?_)
 refine .eff rfl (fun fu_ li_ hk_ hs_ hl_ => ?_)
 refine .call call114 (S_RReadD) rfl .pk rfl (fun x21 hx21 => ?_)
 refine .nil (TS.backK hk_ hs_ hl_ (Knows.pickEx (A := fun DD : Db => RDbA d m DD) .pk) ?_)
 refine .v rfl (.move rfl) (.v rfl (.extract rfl rfl) (.v rfl (.extract rfl rfl) (.v rfl (.assign rfl) (.v rfl (.assign rfl) (.done (TQ.then (.seq (.region (.v (.move rfl) (.v (.assign rfl) (.nil (TQ.then (.ret ?_)))))))))))))
 exact .ret results124 (.tmp rfl .nil) () rfl trivial .en

set_option maxHeartbeats 400000 in
theorem S_wardenref19_Asked_measurement {a d m : Nat} {D : Db} {sp tb : Int} {F : File} : Spec prog 86 [ptr a].toArray [RDbA d m D, RAskR a d sp tb F] (fun x : Nat => x ≤ 8) (fun x => (meas D sp).val) (fun x => [RDbA d m (D.tk x), RAskR a d sp tb F]) := by
 refine Spec.body func86 rfl ntmps86 rfl (fun σ R => ?_)
 refine .seq (.region (.alloc zeroValue24 rfl rfl (fun b2 => ?_)))
 refine .nil (TQ.then (.seq (.region (.alloc zeroValue24 rfl rfl (fun b3 => ?_)))))
 refine .nil (TQ.then (.seq (.seq ?_)))
 obtain ⟨M, hM⟩ : ∃ M, meas D sp = M := ⟨_, rfl⟩
 rw [show [Value.int .u32 0, Value.int .u32 0, Value.int .u32 0, Value.int .u32 0, Value.int .u32 0, Value.int .u32 0, Value.int .u32 0, Value.int .u32 0] = w32s (M.ws.take 0 ++ List.replicate (M.ws.length - 0) 0) from rfl]
 refine .region (.v (.assign rfl) (.nil (TQ.then (.block (.loop (X := {x : Nat × Nat // x.1 ≤ 8 ∧ x.2 ≤ x.1}) (s0 := [(0, _), (2, _), (3, _)]) (fun x => [(4, i64 x.1.1)]) (fun x => [.row b3 (w32s (M.ws.take x.1.1 ++ List.replicate (M.ws.length - x.1.1) 0)) 24, RDbA d m (D.tk x.1.2)]) (fun x => 8 - x.1.1) ⟨(0, 0), by decide, by decide⟩ .st .pk (fun x => ?_))))))
 refine .seq (.seq (.region (.v (.move rfl) (.v (.lss rfl rfl) (.nil (TQ.then ?_))))))
 first | refine .cond_dec rfl (fun h1 => ?_) (fun h1 => ?_) | refine .cond rfl (fun h1 => ?_) (fun h1 => ?_)
 ·
  obtain ⟨⟨i, k⟩, hi, hk⟩ := x
  dsimp only at hi hk h1 ⊢
  have hlt : i < 8 := by omega
  have hg : M.ws[i]'hlt = D.pk sp (3 + (i : Int)) := by subst hM; exact meas_at hlt
  have hr := rdT_le (M := (D.tk k).mem) (s := true) (p := sp) (o := 3 + (i : Int))
  refine .skip (TQ.then (.seq (.block (.region (.v (.move rfl) (.v (.move rfl) (.v (.move rfl) (.v (.add64 rfl rfl (by omega)) ?_))))))))
  refine .call call124 (S_wardenref19_Asked_word (F := F)) rfl .pk rfl (fun x13 hx13 => ?_)
  rw [Db.tk_pk, Db.tk_tk, ← hg]
  refine .v (.ixArr1 underlying24 sizeOf23 rfl rfl (by omega)) ?_
  refine .storeTo (new := w32s (M.ws.take (i + 1) ++ List.replicate (M.ws.length - (i + 1)) 0)) sizeOf23 rfl rfl rfl .up (by rw [show 0 + ((i : Nat) : Int).toNat = i by omega, ← fillTo_set (l := M.ws) hlt]; exact w32s_set) (by rw [w32s_length, List.length_append, List.length_take, List.length_replicate]; have : M.ws.length = 8 := rfl; omega) ?_
  refine .nil (.blk_normal (TQ.then (.region (.v (.move rfl) (.v (.add64 rfl rfl (by omega)) ?_)))))
  refine .v (.assign rfl) (.nil ?_)
  exact .next ⟨(i + 1, k + rdT (D.tk k).mem true sp (3 + (i : Int))), by dsimp only; omega, by dsimp only; omega⟩ (by dsimp only; omega) .st .en
 ·
  obtain ⟨⟨i, k⟩, hi, hk⟩ := x
  dsimp only at hi hk h1 ⊢
  obtain rfl : i = 8 := by omega
  rw [show M.ws.take 8 ++ List.replicate (M.ws.length - 8) 0 = M.ws from by rw [List.take_of_length_le (show M.ws.length ≤ 8 from Nat.le_refl _)]; show M.ws ++ [] = M.ws; rw [List.append_nil]]
  refine .exit (.then_exit (.then_exit (.blk_hit (TQ.then (.seq (.region (.v (.loadAgg (vs := [_, _, _, _, _, _, _, _]) isAgg24 sizeOf24 rfl .tk (by rfl) (by rfl)) ?_)))))))
  refine .storeAll (us := [_, _, _, _, _, _, _, _]) sizeOf24 rfl rfl rfl rfl .up rfl ?_
  refine .nil (TQ.then (.ret ?_))
  exact .ret results86 (.agg isAgg24 sizeOf24 rfl .tk (by rfl) (by rfl) .nil) k (by rw [hM]; rfl) hk .en

theorem fo_82_0_WRef19 : FieldOff prog 82 0 0 := FieldOff.of 35 15 underlying82 rfl sizeOf35 rfl
theorem fo_149_3_WRef19 : FieldOff prog 149 3 3 := FieldOff.of 82 19 underlying149 rfl sizeOf82 rfl
set_option maxHeartbeats 400000 in
theorem S_wardenref19_Asked_answers {a d : Nat} {sp tb : Int} {F : File} {c : W} : Spec prog 87 [ptr a, w32 c].toArray [RAskR a d sp tb F] (fun _ : Unit => True) (fun _ => (F.ret c).val) (fun _ => [RAskR a d sp tb F]) := by
 refine Spec.body func87 rfl ntmps87 rfl (fun σ R => ?_)
 refine .seq (.region (.alloc zeroValue82 rfl rfl (fun b4 => ?_)))
 refine .nil (TQ.then (.seq (.region (.v (.move rfl) (.v (.nilCheck rfl) (.v (.field fo_149_3_WRef19 rfl) (.v (.loadAgg (vs := F.cells) isAgg82 sizeOf82 rfl .tk (by rfl) (by rfl)) ?_)))))))
 refine .alloc zeroValue82 rfl rfl (fun b5 => ?_)
 refine .storeAll (us := F.cells) sizeOf82 rfl rfl rfl rfl .up rfl ?_
 refine .nil (TQ.then (.seq (.region (.v (.move rfl) (.v (.field fo_82_0_WRef19 rfl) (.v (.ixArr1 underlying35 sizeOf23 rfl rfl (by decide)) ?_))))))
 refine .storeTo (new := (F.ret c).cells) sizeOf23 rfl rfl rfl .up rfl (by show 0 < 19; decide) ?_
 refine .nil (TQ.then (.seq (.region (.v (.loadAgg (vs := (F.ret c).cells) isAgg82 sizeOf82 rfl .tk (by rfl) (by rfl)) ?_))))
 refine .storeAll (us := (F.ret c).cells) sizeOf82 rfl rfl rfl rfl .up rfl ?_
 refine .nil (TQ.then (.ret ?_))
 exact .ret results87 (.agg isAgg82 sizeOf82 rfl .tk (by rfl) (by rfl) .nil) () rfl trivial .en

set_option maxHeartbeats 400000 in
theorem S_wardenref19_Asked_eight {a d : Nat} {sp tb : Int} {F : File} {s : S8} : Spec prog 85 [ptr a, s.val].toArray [RAskR a d sp tb F] (fun _ : Unit => True) (fun _ => ((F.lay s).ret 0#32).val) (fun _ => [RAskR a d sp tb F]) := by
 refine Spec.body func85 rfl ntmps85 rfl (fun σ R => ?_)
 refine .seq (.region (.box (vs := [_, _, _, _, _, _, _, _]) rfl rfl rfl (fun b3 => ?_)))
 refine .alloc zeroValue82 rfl rfl (fun b4 => ?_)
 refine .nil (TQ.then (.seq (.region (.v (.move rfl) (.call call87 (S_wardenref19_Asked_answers (F := F) (c := 0#32)) rfl .pk rfl (fun x8 hx8 => ?_))))))
 refine .alloc zeroValue82 rfl rfl (fun b5 => ?_)
 refine .storeAll (us := layL (F.ret 0#32) s 0) sizeOf82 rfl rfl rfl rfl .up rfl ?_
 refine .nil (TQ.then (.seq (.seq (.region (.v (.assign rfl) (.nil (TQ.then (.block (.loop (X := {i : Nat // i ≤ 8}) (s0 := [(3, _), (4, _), (5, _)]) (fun x => [(6, i64 x.1)]) (fun x => [.row b5 (layL (F.ret 0#32) s x.1) 82]) (fun x => 8 - x.1) ⟨0, by decide⟩ .st .pk (fun x => ?_))))))))))
 refine .seq (.seq (.region (.v (.move rfl) (.v (.lss rfl rfl) (.nil (TQ.then ?_))))))
 first | refine .cond_dec rfl (fun h1 => ?_) (fun h1 => ?_) | refine .cond rfl (fun h1 => ?_) (fun h1 => ?_)
 ·
  obtain ⟨i, hi⟩ := x
  dsimp only at hi h1 ⊢
  have hlt : i < 8 := by omega
  have hll := layL_len (F := F.ret 0#32) (s := s) hi
  refine .skip (TQ.then (.seq (.block (.region (.v (.move rfl) (.v (.add64 rfl rfl (by omega)) ?_))))))
  refine .v (.move rfl) (.v (.ixArr1 underlying24 sizeOf23 rfl rfl (by omega)) ?_)
  refine .v (.load isAgg23 rfl .tk (w32s_get (g := s.ws) (by rw [show 0 + ((i : Nat) : Int).toNat = i by omega]; exact wAt_get hlt))) ?_
  refine .v (.field fo_82_0_WRef19 rfl) (.v (.ixArr1 underlying35 sizeOf23 rfl rfl (by omega)) ?_)
  refine .storeTo (new := layL (F.ret 0#32) s (i + 1)) sizeOf23 rfl rfl rfl .up (by rw [show 0 + 0 + (1 + (i : Int)).toNat = 1 + i by omega]; exact layL_set hlt) (by omega) ?_
  refine .nil (.blk_normal (TQ.then (.region (.v (.move rfl) (.v (.add64 rfl rfl (by omega)) ?_)))))
  refine .v (.assign rfl) (.nil ?_)
  exact .next ⟨i + 1, by omega⟩ (by dsimp only; omega) .st .en
 ·
  obtain ⟨i, hi⟩ := x
  dsimp only at hi h1 ⊢
  obtain rfl : i = 8 := by omega
  rw [show layL (F.ret 0#32) s 8 = ((F.lay s).ret 0#32).cells from rfl]
  refine .exit (.then_exit (.then_exit (.blk_hit (TQ.then (.seq (.region (.v (.loadAgg (vs := ((F.lay s).ret 0#32).cells) isAgg82 sizeOf82 rfl .tk (by rfl) (by rfl)) ?_)))))))
  refine .storeAll (us := ((F.lay s).ret 0#32).cells) sizeOf82 rfl rfl rfl rfl .up rfl ?_
  refine .nil (TQ.then (.ret ?_))
  exact .ret results85 (.agg isAgg82 sizeOf82 rfl .tk (by rfl) (by rfl) .nil) () rfl trivial .en

theorem fo_104_0_WRef19 : FieldOff prog 104 0 0 := FieldOff.of 3 1 underlying104 rfl sizeOf3 rfl
theorem fo_104_1_WRef19 : FieldOff prog 104 1 1 := FieldOff.of 3 1 underlying104 rfl sizeOf3 rfl
set_option maxHeartbeats 400000 in
theorem S_wardenref19_Asked_owns {a d m : Nat} {D : Db} {sp tb : Int} {F : File} {t : Int} : Spec prog 116 [ptr a, i64 t].toArray [RDbA d m D, RAskR a d sp tb F] (fun _ : Unit => True) (fun _ => .bool (decide (ownsD D sp (pg F) t))) (fun _ => [RDbA d m D, RAskR a d sp tb F]) := by
 refine Spec.body func116 rfl ntmps116 rfl (fun σ R => ?_)
 refine .seq (.region (.v (.assign rfl) (.nil (TQ.then (.seq (.draw (H := [.row a _ _]) (.q 0 (.q 1 (.q 2 (.q 3 (.q 4 (.q 5 (.q 6 (.q 7 (.q 8 (.q 9 (.q 10 (.b 11 (.q 12 (.q 13 (.q 14 (.e 15 (.e 16 (.q 17 .done)))))) 15 (.e 11 (.q 12 (.q 13 (.q 14 (.e 16 (.q 17 .done)))))))))))))))))) (by kernel_rfl) .pk (by kernel_rfl) (by kernel_rfl) (by kernel_rfl) ?_))))))
 refine .v rfl (.move rfl) (.v rfl (.nilCheck rfl) (.v rfl (.field fo_149_0_WRef19 rfl) (.v rfl (.load isAgg57 rfl .tk (by rfl)) ?_)))
 refine .v rfl (.move rfl) (.v rfl (.nilCheck rfl) (.v rfl (.field fo_149_3_WRef19 rfl) (.v rfl (.field fo_82_0_WRef19 rfl) (.v rfl (.ixArr1 underlying35 sizeOf23 rfl rfl (by decide)) ?_))))
 refine .v rfl (.load isAgg23 rfl .tk (by rfl)) ?_
 refine .v rfl (.conv_32_64 underlying23 underlying3 rfl) ?_
 refine .both rfl rfl (fun fu_ li_ hk_ hs_ hl_ => ?_) (fun fu_ li_ hk_ hs_ hl_ => ?_)
 ·
  refine .call call77 (S_REntryD) rfl .pk rfl (fun x19 hx19 => ?_)
  refine .nil (TS.back hk_ hs_ hl_ .pk ?_)
  refine .v rfl (.move rfl) (.v rfl (.extract rfl rfl) (.v rfl (.extract rfl rfl) (.eff rfl (fun fu_ li_ hk_ hs_ hl_ => ?_))))
  refine .alloc zeroValue104 rfl rfl (fun b5 => ?_)
  refine .nil (TS.back hk_ hs_ hl_ .pk ?_)
  refine .eff rfl (fun fu_ li_ hk_ hs_ hl_ => ?_)
  refine .storeAll (us := [_, _, _, _, _]) sizeOf104 rfl rfl rfl rfl .up rfl ?_
  refine .nil (TS.back hk_ hs_ hl_ .pk ?_)
  refine .v rfl (.assign rfl) (.done (TQ.then (.seq (.draw (H := [.row a _ _, .row b5 _ _]) (.q 0 (.q 1 (.q 2 (.q 3 (.q 4 (.q 5 (.q 6 (.q 7 (.q 8 (.q 9 (.q 10 (.q 11 (.q 12 (.q 13 (.q 14 (.q 15 (.q 16 (.q 17 .done)))))))))))))))))) (by kernel_rfl) .pk (by kernel_rfl) (by kernel_rfl) (by kernel_rfl) ?_))))
  refine .v rfl (.move rfl) (.v rfl (.eql rfl rfl) (.v rfl (.move rfl) ?_))
  first | refine .part_dec (dj := 24) rfl (fun h1 => ?_) (fun h1 => ?_) | refine .part (dj := 24) rfl (fun h1 => ?_) (fun h1 => ?_)
  ·
   refine .want rfl rfl rfl (.field fo_104_0_WRef19 rfl) rfl ?_
   refine .want rfl rfl rfl (.load isAgg3 rfl .tk (by rfl)) rfl ?_
   refine .want rfl rfl rfl (.move rfl) rfl ?_
   refine .want rfl rfl rfl (.eql rfl rfl) rfl ?_
   refine .v rfl (.pick_true rfl rfl) (.v rfl (.move rfl) ?_)
   first | refine .part_dec (dj := 30) rfl (fun h2 => ?_) (fun h2 => ?_) | refine .part (dj := 30) rfl (fun h2 => ?_) (fun h2 => ?_)
   ·
    refine .want rfl rfl rfl (.field fo_104_1_WRef19 rfl) rfl ?_
    refine .want rfl rfl rfl (.load isAgg3 rfl .tk (by rfl)) rfl ?_
    refine .want rfl rfl rfl (.move rfl) rfl ?_
    refine .want rfl rfl rfl (.nilCheck rfl) rfl ?_
    refine .want rfl rfl rfl (.field fo_149_1_WRef19 rfl) rfl ?_
    refine .want rfl rfl rfl (.load isAgg3 rfl .tk (by rfl)) rfl ?_
    refine .want rfl rfl rfl (.eql rfl rfl) rfl ?_
    refine .v rfl (.pick_true rfl rfl) (.v rfl (.assign rfl) (.done (TQ.then (.ret ?_))))
    exact .ret results116 (.tmp rfl .nil) () (by rw [owns_tt h1 h2]; rfl) trivial .en
   ·
    refine .skip rfl rfl rfl rfl (.skip rfl rfl rfl rfl (.skip rfl rfl rfl rfl (.skip rfl rfl rfl rfl (.skip rfl rfl rfl rfl (.skip rfl rfl rfl rfl (.skip rfl rfl rfl rfl (.v rfl (.pick_false rfl rfl) (.v rfl (.assign rfl) (.done (TQ.then (.ret ?_)))))))))))
    exact .ret results116 (.tmp rfl .nil) () (by rw [owns_tf h2]; rfl) trivial .en
  ·
   refine .skip rfl rfl rfl rfl (.skip rfl rfl rfl rfl (.skip rfl rfl rfl rfl (.skip rfl rfl rfl rfl (.v rfl (.pick_false rfl rfl) (.v rfl (.move rfl) (.skip rfl rfl rfl rfl (.skip rfl rfl rfl rfl (.skip rfl rfl rfl rfl (.skip rfl rfl rfl rfl (.skip rfl rfl rfl rfl (.skip rfl rfl rfl rfl (.skip rfl rfl rfl rfl (.v rfl (.pick_false rfl rfl) (.v rfl (.assign rfl) (.done (TQ.then (.ret ?_)))))))))))))))))
   exact .ret results116 (.tmp rfl .nil) () (by rw [owns_f h1]; rfl) trivial .en
 ·
  refine .alloc zeroValue104 rfl rfl (fun b5 => ?_)
  refine .nil (TS.back hk_ hs_ hl_ .pk ?_)
  refine .eff rfl (fun fu_ li_ hk_ hs_ hl_ => ?_)
  refine .call call77 (S_REntryD) rfl .pk rfl (fun x19 hx19 => ?_)
  refine .nil (TS.back hk_ hs_ hl_ .pk ?_)
  refine .v rfl (.move rfl) (.v rfl (.extract rfl rfl) (.v rfl (.extract rfl rfl) (.eff rfl (fun fu_ li_ hk_ hs_ hl_ => ?_))))
  refine .storeAll (us := [_, _, _, _, _]) sizeOf104 rfl rfl rfl rfl .up rfl ?_
  refine .nil (TS.back hk_ hs_ hl_ .pk ?_)
  refine .v rfl (.assign rfl) (.done (TQ.then (.seq (.draw (H := [.row a _ _, .row b5 _ _]) (.q 0 (.q 1 (.q 2 (.q 3 (.q 4 (.q 5 (.q 6 (.q 7 (.q 8 (.q 9 (.q 10 (.q 11 (.q 12 (.q 13 (.q 14 (.q 15 (.q 16 (.q 17 .done)))))))))))))))))) (by kernel_rfl) .pk (by kernel_rfl) (by kernel_rfl) (by kernel_rfl) ?_))))
  refine .v rfl (.move rfl) (.v rfl (.eql rfl rfl) (.v rfl (.move rfl) ?_))
  first | refine .part_dec (dj := 24) rfl (fun h1 => ?_) (fun h1 => ?_) | refine .part (dj := 24) rfl (fun h1 => ?_) (fun h1 => ?_)
  ·
   refine .want rfl rfl rfl (.field fo_104_0_WRef19 rfl) rfl ?_
   refine .want rfl rfl rfl (.load isAgg3 rfl .tk (by rfl)) rfl ?_
   refine .want rfl rfl rfl (.move rfl) rfl ?_
   refine .want rfl rfl rfl (.eql rfl rfl) rfl ?_
   refine .v rfl (.pick_true rfl rfl) (.v rfl (.move rfl) ?_)
   first | refine .part_dec (dj := 30) rfl (fun h2 => ?_) (fun h2 => ?_) | refine .part (dj := 30) rfl (fun h2 => ?_) (fun h2 => ?_)
   ·
    refine .want rfl rfl rfl (.field fo_104_1_WRef19 rfl) rfl ?_
    refine .want rfl rfl rfl (.load isAgg3 rfl .tk (by rfl)) rfl ?_
    refine .want rfl rfl rfl (.move rfl) rfl ?_
    refine .want rfl rfl rfl (.nilCheck rfl) rfl ?_
    refine .want rfl rfl rfl (.field fo_149_1_WRef19 rfl) rfl ?_
    refine .want rfl rfl rfl (.load isAgg3 rfl .tk (by rfl)) rfl ?_
    refine .want rfl rfl rfl (.eql rfl rfl) rfl ?_
    refine .v rfl (.pick_true rfl rfl) (.v rfl (.assign rfl) (.done (TQ.then (.ret ?_))))
    exact .ret results116 (.tmp rfl .nil) () (by rw [owns_tt h1 h2]; rfl) trivial .en
   ·
    refine .skip rfl rfl rfl rfl (.skip rfl rfl rfl rfl (.skip rfl rfl rfl rfl (.skip rfl rfl rfl rfl (.skip rfl rfl rfl rfl (.skip rfl rfl rfl rfl (.skip rfl rfl rfl rfl (.v rfl (.pick_false rfl rfl) (.v rfl (.assign rfl) (.done (TQ.then (.ret ?_)))))))))))
    exact .ret results116 (.tmp rfl .nil) () (by rw [owns_tf h2]; rfl) trivial .en
  ·
   refine .skip rfl rfl rfl rfl (.skip rfl rfl rfl rfl (.skip rfl rfl rfl rfl (.skip rfl rfl rfl rfl (.v rfl (.pick_false rfl rfl) (.v rfl (.move rfl) (.skip rfl rfl rfl rfl (.skip rfl rfl rfl rfl (.skip rfl rfl rfl rfl (.skip rfl rfl rfl rfl (.skip rfl rfl rfl rfl (.skip rfl rfl rfl rfl (.skip rfl rfl rfl rfl (.v rfl (.pick_false rfl rfl) (.v rfl (.assign rfl) (.done (TQ.then (.ret ?_)))))))))))))))))
   exact .ret results116 (.tmp rfl .nil) () (by rw [owns_f h1]; rfl) trivial .en

set_option maxHeartbeats 400000 in
theorem S_wardenref19_Asked_attests {AK1 : Assn} {a d m : Nat} {D : Db} {sp tb : Int} {F : File} {K : S8} (hK1 : Tab AK1 1 := by assumption) : Spec prog 79 [ptr a, K.val].toArray [RDbA d m D, RAskR a d sp tb F, AK1] (fun x : Db => x.same (attR K D sp F).db) (fun x => ((attR K D sp F).f.ret (attR K D sp F).code).val) (fun x => [RDbA d m x, RAskR a d sp tb F, AK1]) := by
 refine Spec.body func79 rfl ntmps79 rfl (fun σ R => ?_)
 refine .seq (.region (.box (vs := [_, _, _, _, _, _, _, _]) rfl rfl rfl (fun b3 => ?_)))
 refine .alloc zeroValue82 rfl rfl (fun b4 => ?_)
 refine .nil (TQ.then (.seq (.region (.alloc zeroValue24 rfl rfl (fun b5 => ?_)))))
 refine .nil (TQ.then (.seq (.seq ?_)))
 rw [show [Value.int .u32 0, Value.int .u32 0, Value.int .u32 0, Value.int .u32 0, Value.int .u32 0, Value.int .u32 0, Value.int .u32 0, Value.int .u32 0] = w32s (F.data.ws.take 0 ++ List.replicate (F.data.ws.length - 0) 0) from rfl]
 refine .region (.v (.assign rfl) (.nil (TQ.then (.block (.loop (X := {i : Nat // i ≤ 8}) (s0 := [(0, _), (3, _), (4, _), (5, _)]) (fun x => [(6, i64 x.1)]) (fun x => [.row b5 (w32s (F.data.ws.take x.1 ++ List.replicate (F.data.ws.length - x.1) 0)) 24]) (fun x => 8 - x.1) ⟨0, by decide⟩ .st .pk (fun x => ?_))))))
 refine .seq (.seq (.region (.v (.move rfl) (.v (.lss rfl rfl) (.nil (TQ.then ?_))))))
 first | refine .cond_dec rfl (fun h1 => ?_) (fun h1 => ?_) | refine .cond rfl (fun h1 => ?_) (fun h1 => ?_)
 ·
  obtain ⟨i, hi⟩ := x
  dsimp only at hi h1 ⊢
  have hlt : i < 8 := by omega
  refine .skip (TQ.then (.seq (.block (.region (.v (.move rfl) (.v (.move rfl) (.v (.move rfl) (.v (.add64 rfl rfl (by omega)) ?_))))))))
  refine .v (.nilCheck rfl) (.v (.field fo_149_3_WRef19 rfl) (.v (.field fo_82_0_WRef19 rfl) (.v (.ixArr1 underlying35 sizeOf23 rfl rfl (by omega)) ?_)))
  refine .v (.load isAgg23 rfl .tk (by rw [show 0 + 3 + 0 + (1 + (i : Int)).toNat = 3 + (1 + i) by omega]; exact reg_get (F := F) (r := []) hlt)) ?_
  refine .v (.ixArr1 underlying24 sizeOf23 rfl rfl (by omega)) ?_
  refine .storeTo (new := w32s (F.data.ws.take (i + 1) ++ List.replicate (F.data.ws.length - (i + 1)) 0)) sizeOf23 rfl rfl rfl .up (by rw [show 0 + ((i : Nat) : Int).toNat = i by omega, show wAt F.data.ws i = F.data.ws[i]'hlt from by unfold wAt; rw [List.getElem?_eq_getElem (show i < F.data.ws.length from hlt)]; rfl, ← fillTo_set (l := F.data.ws) hlt]; exact w32s_set) (by rw [w32s_length, List.length_append, List.length_take, List.length_replicate]; have : F.data.ws.length = 8 := rfl; omega) ?_
  refine .nil (.blk_normal (TQ.then (.region (.v (.move rfl) (.v (.add64 rfl rfl (by omega)) ?_)))))
  refine .v (.assign rfl) (.nil ?_)
  exact .next ⟨i + 1, by omega⟩ (by dsimp only; omega) .st .en
 ·
  obtain ⟨i, hi⟩ := x
  dsimp only at hi h1 ⊢
  obtain rfl : i = 8 := by omega
  rw [show F.data.ws.take 8 ++ List.replicate (F.data.ws.length - 8) (0 : W) = F.data.ws from rfl]
  refine .exit (.then_exit (.then_exit (.blk_hit (TQ.then (.seq (.draw (H := [.row b3 _ _, .row b5 _ _]) (.q 0 (.q 1 (.q 2 (.q 4 (.e 3 (.e 5 (.e 6 (.e 7 .done)))))))) (by kernel_rfl) .pk (by kernel_rfl) (by kernel_rfl) (by kernel_rfl) ?_))))))
  refine .v rfl (.move rfl) (.v rfl (.loadAgg (vs := [_, _, _, _, _, _, _, _]) isAgg24 sizeOf24 rfl .tk (by rfl) (by rfl)) ?_)
  refine .v rfl (.move rfl) (.v rfl (.loadAgg (vs := [_, _, _, _, _, _, _, _]) isAgg24 sizeOf24 rfl .tk (by rfl) (by rfl)) ?_)
  refine .eff rfl (fun fu_ li_ hk_ hs_ hl_ => ?_)
  refine .call call86 (S_wardenref19_Asked_measurement) rfl .pk rfl (fun x24 hx24 => ?_)
  refine .nil (TS.back hk_ hs_ hl_ .pk ?_)
  refine .eff rfl (fun fu_ li_ hk_ hs_ hl_ => ?_)
  refine .call call112 (S_wardenref16_Tag (K := K) (M := meas D sp) (D := F.data)) rfl .pk rfl (fun x26 hx26 => ?_)
  refine .nil (TS.back hk_ hs_ hl_ .pk ?_)
  refine .eff rfl (fun fu_ li_ hk_ hs_ hl_ => ?_)
  refine .call call85 (S_wardenref19_Asked_eight (F := F) (s := macW K.ws ((meas D sp).ws ++ F.data.ws))) rfl .pk rfl (fun x27 hx27 => ?_)
  refine .nil (TS.back hk_ hs_ hl_ .pk ?_)
  refine .eff rfl (fun fu_ li_ hk_ hs_ hl_ => ?_)
  refine .storeAll sizeOf82 rfl rfl rfl rfl .up rfl ?_
  refine .nil (TS.back hk_ hs_ hl_ .pk ?_)
  refine .done (TQ.then (.ret ?_))
  exact .ret results79 (.agg isAgg82 sizeOf82 rfl .tk (by rfl) (by rfl) .nil) (D.tk x24) rfl (((Db.near.refl (D := D) (K := 0)).tk (Nat.le_refl x24)).same) .en

theorem fo_149_2_WRef19 : FieldOff prog 149 2 2 := FieldOff.of 3 1 underlying149 rfl sizeOf3 rfl
set_option maxHeartbeats 2000000 in
theorem S_wardenref19_Asked_verifies {AK1 : Assn} {a d m : Nat} {D : Db} {sp tb : Int} {F : File} {K : S8} (hK1 : Tab AK1 1 := by assumption) : Spec prog 80 [ptr a, K.val].toArray [RDbA d m D, RAskR a d sp tb F, AK1] (fun x : Db => x.same (verR K D tb F).db) (fun x => ((verR K D tb F).f.ret (verR K D tb F).code).val) (fun x => [RDbA d m x, RAskR a d sp tb F, AK1]) := by
 refine Spec.body func80 rfl ntmps80 rfl (fun σ R => ?_)
 refine .seq (.region (.box (vs := [_, _, _, _, _, _, _, _]) rfl rfl rfl (fun b3 => ?_)))
 refine .alloc zeroValue82 rfl rfl (fun b4 => ?_)
 refine .nil (TQ.then (.seq (.region (.alloc (zs := w32s (List.replicate 24 0)) zeroValue184 (by kernel_rfl) rfl (fun b5 => ?_)))))
 refine .nil (TQ.then (.seq (.seq ?_)))
 rw [show (List.replicate 24 0 : List W) = (vL D tb F).take 0 ++ List.replicate ((vL D tb F).length - 0) 0 from by rw [vL_len]; rfl]
 have hvl := @vL_len D tb F
 refine .region (.v (.assign rfl) (.nil (TQ.then (.block (.loop (X := {x : Nat × Db // x.1 ≤ 24 ∧ x.2.same D ∧ ∀ j, j < x.1 → (vT D tb F j).err = 0}) (s0 := [(0, _), (3, _), (4, _), (5, _)]) (fun x => [(6, i64 x.1.1)]) (fun x => [.row b5 (w32s ((vL D tb F).take x.1.1 ++ List.replicate ((vL D tb F).length - x.1.1) 0)) 184, RDbA d m x.1.2]) (fun x => 24 - x.1.1) ⟨(0, D), Nat.zero_le _, .refl, fun j h => absurd h (Nat.not_lt_zero _)⟩ .st .pk (fun x => ?_))))))
 refine .seq (.seq (.region (.v (.move rfl) (.v (.lss rfl rfl) (.nil (TQ.then ?_))))))
 first | refine .cond_dec rfl (fun h1 => ?_) (fun h1 => ?_) | refine .cond rfl (fun h1 => ?_) (fun h1 => ?_)
 ·
  obtain ⟨⟨i, Y⟩, hi, hY, hj⟩ := x
  dsimp only at hi hY hj h1 ⊢
  have hlt : i < 24 := by omega
  have hg : (vL D tb F)[i]'(by omega) = vW D tb F i := vL_get _
  refine .skip (TQ.then (.seq (.block (.seq (.drawK (H := [.ex fun DD : Db => RDbA d m DD, .row a _ _]) (.q 0 (.q 1 (.q 2 (.q 3 (.q 4 (.q 5 (.q 6 (.q 7 (.q 8 (.q 9 (.q 10 (.q 11 (.q 12 (.q 13 (.q 14 (.q 15 (.q 16 (.q 17 (.q 18 (.q 19 (.q 20 (.b 21 (.q 22 (.q 23 (.q 24 (.q 25 (.e 26 (.e 27 (.q 28 (.q 29 .done)))))))) 26 (.e 21 (.q 22 (.q 23 (.q 24 (.q 25 (.e 27 (.q 28 (.q 29 .done)))))))))))))))))))))))))))))) (by kernel_rfl) (Knows.pickEx (A := fun DD : Db => RDbA d m DD) .pk) (by kernel_rfl) (by kernel_rfl) (by kernel_rfl) ?_)))))
  refine .v rfl (.move rfl) (.v rfl (.nilCheck rfl) (.v rfl (.field fo_149_0_WRef19 rfl) (.v rfl (.load isAgg57 rfl .tk (by rfl)) ?_)))
  refine .v rfl (.nilCheck rfl) (.v rfl (.field fo_76_0_WRef19 rfl) (.v rfl (.loadC isAgg54 rfl .tk (fun w hw => RDbA.ptrX hw)) ?_))
  refine .v rfl (.move rfl) (.v rfl (.nilCheck rfl) (.v rfl (.field fo_149_2_WRef19 rfl) (.v rfl (.load isAgg3 rfl .tk (by rfl)) ?_)))
  refine .v rfl (.move rfl) (.v rfl (.nilCheck rfl) (.v rfl (.field fo_149_3_WRef19 rfl) (.v rfl (.field fo_82_0_WRef19 rfl) (.v rfl (.ixArr1 underlying35 sizeOf23 rfl rfl (by decide)) ?_))))
  refine .v rfl (.load isAgg23 rfl .tk (by rfl)) ?_
  refine .v rfl (.move rfl) (.v rfl (.conv_64_32 underlying3 underlying23 rfl) ?_)
  refine .v rfl (.mul32 (a := 4#32) rfl rfl) (.v rfl (.add32 rfl rfl) (.both rfl rfl (fun fu_ li_ hk_ hs_ hl_ => ?_) (fun fu_ li_ hk_ hs_ hl_ => ?_)))
  ·
   refine .call call113 (S_RTranslateD (va := vA F i)) rfl .pk rfl (fun x37 hx37 => ?_)
   rw [show transM Y.mem tb (vA F i) 0 = vT D tb F i from hY.trans']
   obtain ⟨q, hq⟩ : ∃ q, vT D tb F i = q := ⟨_, rfl⟩
   rw [hq]
   have hY2 : (Y.tk x37).same D := ((Db.near.tk ⟨hY, 0, Nat.le_refl _, .refl⟩ (Nat.le_refl x37)).same : (Y.tk x37).same D)
   refine .nil (TS.backK hk_ hs_ hl_ (Knows.pickEx (A := fun DD : Db => RDbA d m DD) .pk) ?_)
   refine .v rfl (.move rfl) (.v rfl (.extract rfl rfl) (.v rfl (.extract rfl rfl) (.v rfl (.extract rfl rfl) (.eff rfl (fun fu_ li_ hk_ hs_ hl_ => ?_)))))
   refine .alloc zeroValue78 rfl rfl (fun b7 => ?_)
   refine .nil (TS.backK hk_ hs_ hl_ (Knows.pickEx (A := fun DD : Db => RDbA d m DD) .pk) ?_)
   refine .eff rfl (fun fu_ li_ hk_ hs_ hl_ => ?_)
   refine .storeAll (us := [_, _]) sizeOf78 rfl rfl rfl rfl .up rfl ?_
   refine .nil (TS.backK hk_ hs_ hl_ (Knows.pickEx (A := fun DD : Db => RDbA d m DD) .pk) ?_)
   refine .v rfl (.assign rfl) (.v rfl (.assign rfl) (.done (TQ.then (.seq (.seq (.region (.v (.move rfl) (.v (.neq rfl rfl) (.nil (TQ.then ?_))))))))))
   first | refine .cond_dec rfl (fun h2 => ?_) (fun h2 => ?_) | refine .cond rfl (fun h2 => ?_) (fun h2 => ?_)
   ·
    refine .seq (.region (.v (.move rfl) (.call call87 (S_wardenref19_Asked_answers (F := F) (c := 20#32)) rfl .pk rfl (fun x44 hx44 => ?_))))
    refine .storeAll sizeOf82 rfl rfl rfl rfl .up rfl ?_
    refine .nil (TQ.then (.ret (.then_ret (.blk_ret (.then_ret (.then_ret (.blk_ret (.then_ret ?_))))))))
    exact .ret results80 (.agg isAgg82 sizeOf82 rfl .tk (by rfl) (by rfl) .nil) (Y.tk x37) (by rw [verR_bad ⟨i, hlt, by rw [hq]; exact h2⟩]; rfl) (by rw [verR_bad ⟨i, hlt, by rw [hq]; exact h2⟩]; exact hY2) .en
   ·
    refine .skip (TQ.then (.drawK (H := [.ex fun DD : Db => RDbA d m DD, .row a _ _, .row b7 _ _]) (.q 0 (.q 1 (.q 2 (.q 3 (.q 4 (.q 5 (.q 6 (.q 7 (.q 8 (.q 9 (.e 10 (.q 11 (.q 12 (.q 13 (.q 14 (.e 15 .done)))))))))))))))) (by kernel_rfl) (Knows.pickEx (A := fun DD : Db => RDbA d m DD) .pk) (by kernel_rfl) (by kernel_rfl) (by kernel_rfl) ?_))
    refine .v rfl (.move rfl) (.v rfl (.move rfl) (.v rfl (.nilCheck rfl) (.v rfl (.field fo_149_0_WRef19 rfl) (.v rfl (.load isAgg57 rfl .tk (by rfl)) ?_))))
    refine .v rfl (.nilCheck rfl) (.v rfl (.field fo_76_0_WRef19 rfl) (.v rfl (.loadC isAgg54 rfl .tk (fun w hw => RDbA.ptrX hw)) ?_))
    refine .v rfl (.loadAgg (vs := [_, _]) isAgg78 sizeOf78 rfl .tk (by rfl) (by rfl)) ?_
    refine .v rfl (.move rfl) (.eff rfl (fun fu_ li_ hk_ hs_ hl_ => ?_))
    refine .call call114 S_RReadD rfl .pk rfl (fun x56 hx56 => ?_)
    rw [show (Y.tk x37).mem.peek q.sec q.page q.off = vW D tb F i from by rw [vW, hq]; exact hY2.peek, ← hg]
    refine .nil (TS.backK hk_ hs_ hl_ (Knows.pickEx (A := fun DD : Db => RDbA d m DD) .pk) ?_)
    refine .v rfl (.move rfl) (.v rfl (.extract rfl rfl) (.v rfl (.extract rfl rfl) (.v rfl (.ixArr1 underlying184 sizeOf23 rfl rfl (by omega)) ?_)))
    refine .eff rfl (fun fu_ li_ hk_ hs_ hl_ => ?_)
    refine .storeTo (new := w32s ((vL D tb F).take (i + 1) ++ List.replicate ((vL D tb F).length - (i + 1)) 0)) sizeOf23 rfl rfl rfl .up (by rw [show 0 + (i : Int).toNat = i by omega, ← fillTo_set (l := vL D tb F) (by omega)]; exact w32s_set) (by rw [w32s_length, List.length_append, List.length_take, List.length_replicate]; omega) ?_
    refine .nil (TS.backK hk_ hs_ hl_ (Knows.pickEx (A := fun DD : Db => RDbA d m DD) .pk) ?_)
    refine .done (.blk_normal (TQ.then (.region (.v (.move rfl) (.v (.add64 rfl rfl (by omega)) ?_)))))
    refine .v (.assign rfl) (.nil ?_)
    exact .next ⟨(i + 1, (Y.tk x37).tk (rdT (Y.tk x37).mem q.sec q.page q.off)), by dsimp only; omega, (Db.near.tk ⟨hY2, 0, Nat.le_refl _, .refl⟩ (Nat.le_refl _) : (Y.tk x37).near _ D _).same, fun j hj2 => by rcases Nat.lt_succ_iff_lt_or_eq.1 hj2 with h | h; exact hj j h; (subst h; rw [hq]; exact Classical.byContradiction h2)⟩ (by dsimp only; omega) .st .en
  ·
   refine .alloc zeroValue78 rfl rfl (fun b7 => ?_)
   refine .nil (TS.backK hk_ hs_ hl_ (Knows.pickEx (A := fun DD : Db => RDbA d m DD) .pk) ?_)
   refine .eff rfl (fun fu_ li_ hk_ hs_ hl_ => ?_)
   refine .call call113 (S_RTranslateD (va := vA F i)) rfl .pk rfl (fun x37 hx37 => ?_)
   rw [show transM Y.mem tb (vA F i) 0 = vT D tb F i from hY.trans']
   obtain ⟨q, hq⟩ : ∃ q, vT D tb F i = q := ⟨_, rfl⟩
   rw [hq]
   have hY2 : (Y.tk x37).same D := ((Db.near.tk ⟨hY, 0, Nat.le_refl _, .refl⟩ (Nat.le_refl x37)).same : (Y.tk x37).same D)
   refine .nil (TS.backK hk_ hs_ hl_ (Knows.pickEx (A := fun DD : Db => RDbA d m DD) .pk) ?_)
   refine .v rfl (.move rfl) (.v rfl (.extract rfl rfl) (.v rfl (.extract rfl rfl) (.v rfl (.extract rfl rfl) (.eff rfl (fun fu_ li_ hk_ hs_ hl_ => ?_)))))
   refine .storeAll (us := [_, _]) sizeOf78 rfl rfl rfl rfl .up rfl ?_
   refine .nil (TS.backK hk_ hs_ hl_ (Knows.pickEx (A := fun DD : Db => RDbA d m DD) .pk) ?_)
   refine .v rfl (.assign rfl) (.v rfl (.assign rfl) (.done (TQ.then (.seq (.seq (.region (.v (.move rfl) (.v (.neq rfl rfl) (.nil (TQ.then ?_))))))))))
   first | refine .cond_dec rfl (fun h2 => ?_) (fun h2 => ?_) | refine .cond rfl (fun h2 => ?_) (fun h2 => ?_)
   ·
    refine .seq (.region (.v (.move rfl) (.call call87 (S_wardenref19_Asked_answers (F := F) (c := 20#32)) rfl .pk rfl (fun x44 hx44 => ?_))))
    refine .storeAll sizeOf82 rfl rfl rfl rfl .up rfl ?_
    refine .nil (TQ.then (.ret (.then_ret (.blk_ret (.then_ret (.then_ret (.blk_ret (.then_ret ?_))))))))
    exact .ret results80 (.agg isAgg82 sizeOf82 rfl .tk (by rfl) (by rfl) .nil) (Y.tk x37) (by rw [verR_bad ⟨i, hlt, by rw [hq]; exact h2⟩]; rfl) (by rw [verR_bad ⟨i, hlt, by rw [hq]; exact h2⟩]; exact hY2) .en
   ·
    refine .skip (TQ.then (.drawK (H := [.ex fun DD : Db => RDbA d m DD, .row a _ _, .row b7 _ _]) (.q 0 (.q 1 (.q 2 (.q 3 (.q 4 (.q 5 (.q 6 (.q 7 (.q 8 (.q 9 (.e 10 (.q 11 (.q 12 (.q 13 (.q 14 (.e 15 .done)))))))))))))))) (by kernel_rfl) (Knows.pickEx (A := fun DD : Db => RDbA d m DD) .pk) (by kernel_rfl) (by kernel_rfl) (by kernel_rfl) ?_))
    refine .v rfl (.move rfl) (.v rfl (.move rfl) (.v rfl (.nilCheck rfl) (.v rfl (.field fo_149_0_WRef19 rfl) (.v rfl (.load isAgg57 rfl .tk (by rfl)) ?_))))
    refine .v rfl (.nilCheck rfl) (.v rfl (.field fo_76_0_WRef19 rfl) (.v rfl (.loadC isAgg54 rfl .tk (fun w hw => RDbA.ptrX hw)) ?_))
    refine .v rfl (.loadAgg (vs := [_, _]) isAgg78 sizeOf78 rfl .tk (by rfl) (by rfl)) ?_
    refine .v rfl (.move rfl) (.eff rfl (fun fu_ li_ hk_ hs_ hl_ => ?_))
    refine .call call114 S_RReadD rfl .pk rfl (fun x56 hx56 => ?_)
    rw [show (Y.tk x37).mem.peek q.sec q.page q.off = vW D tb F i from by rw [vW, hq]; exact hY2.peek, ← hg]
    refine .nil (TS.backK hk_ hs_ hl_ (Knows.pickEx (A := fun DD : Db => RDbA d m DD) .pk) ?_)
    refine .v rfl (.move rfl) (.v rfl (.extract rfl rfl) (.v rfl (.extract rfl rfl) (.v rfl (.ixArr1 underlying184 sizeOf23 rfl rfl (by omega)) ?_)))
    refine .eff rfl (fun fu_ li_ hk_ hs_ hl_ => ?_)
    refine .storeTo (new := w32s ((vL D tb F).take (i + 1) ++ List.replicate ((vL D tb F).length - (i + 1)) 0)) sizeOf23 rfl rfl rfl .up (by rw [show 0 + (i : Int).toNat = i by omega, ← fillTo_set (l := vL D tb F) (by omega)]; exact w32s_set) (by rw [w32s_length, List.length_append, List.length_take, List.length_replicate]; omega) ?_
    refine .nil (TS.backK hk_ hs_ hl_ (Knows.pickEx (A := fun DD : Db => RDbA d m DD) .pk) ?_)
    refine .done (.blk_normal (TQ.then (.region (.v (.move rfl) (.v (.add64 rfl rfl (by omega)) ?_)))))
    refine .v (.assign rfl) (.nil ?_)
    exact .next ⟨(i + 1, (Y.tk x37).tk (rdT (Y.tk x37).mem q.sec q.page q.off)), by dsimp only; omega, (Db.near.tk ⟨hY2, 0, Nat.le_refl _, .refl⟩ (Nat.le_refl _) : (Y.tk x37).near _ D _).same, fun j hj2 => by rcases Nat.lt_succ_iff_lt_or_eq.1 hj2 with h | h; exact hj j h; (subst h; rw [hq]; exact Classical.byContradiction h2)⟩ (by dsimp only; omega) .st .en
 ·
  obtain ⟨⟨i, Y⟩, hi, hY, hj⟩ := x
  dsimp only at hi hY hj h1 ⊢
  obtain rfl : i = 24 := by omega
  rw [show (vL D tb F).take 24 ++ List.replicate ((vL D tb F).length - 24) 0 = vL D tb F from by rw [List.take_of_length_le (by omega), hvl]; simp]
  have hnb : ¬ vBad D tb F := fun ⟨j, h, h2⟩ => h2 (hj j h)
  refine .exit (.then_exit (.then_exit (.blk_hit (TQ.then (.seq (.region (.v (.move rfl) (.call call87 (S_wardenref19_Asked_answers (F := F) (c := 0#32)) rfl .pk rfl (fun x61 hx61 => ?_)))))))))
  refine .alloc zeroValue82 rfl rfl (fun b10 => ?_)
  refine .storeAll (us := (F.ret 0#32).cells) sizeOf82 rfl rfl rfl rfl .up rfl ?_
  refine .nil (TQ.then (.seq (.region (.v (.field fo_82_0_WRef19 rfl) (.v (.ixArr1 underlying35 sizeOf23 rfl rfl (by decide)) ?_)))))
  refine .storeTo (v := w32 0#32) (new := { F with r0 := 0#32, r1 := 0#32 }.cells) sizeOf23 rfl rfl rfl .up rfl (by show 1 < 19; decide) ?_
  refine .nil (TQ.then (.seq (.seq (.draw (H := [.row b3 _ _, .row b5 _ _]) (.q 0 (.q 1 (.q 2 (.q 3 (.q 4 (.q 5 (.q 6 (.q 7 (.q 8 (.q 9 (.e 10 .done))))))))))) (by kernel_rfl) .pk (by kernel_rfl) (by kernel_rfl) (by kernel_rfl) ?_))))
  refine .v rfl (.loadAgg (vs := [_, _, _, _, _, _, _, _]) isAgg24 sizeOf24 rfl .tk (by rfl) (by rfl)) ?_
  refine .v rfl (.sliceArrLH underlying184 sizeOf23 rfl rfl rfl (by decide) (by decide) (by decide)) ?_
  refine .v rfl (.toArrPtr underlying24 rfl (by decide)) ?_
  refine .v rfl (.loadAgg (vs := [w32 (s8At (vL D tb F) 0).a, w32 (s8At (vL D tb F) 0).b, w32 (s8At (vL D tb F) 0).c, w32 (s8At (vL D tb F) 0).d, w32 (s8At (vL D tb F) 0).e, w32 (s8At (vL D tb F) 0).f, w32 (s8At (vL D tb F) 0).g, w32 (s8At (vL D tb F) 0).h]) isAgg24 sizeOf24 rfl .tk (s8At_cells (k := 0) (by omega)) rfl) ?_
  refine .v rfl (.sliceArrLH underlying184 sizeOf23 rfl rfl rfl (by decide) (by decide) (by decide)) ?_
  refine .v rfl (.toArrPtr underlying24 rfl (by decide)) ?_
  refine .v rfl (.loadAgg (vs := [w32 (s8At (vL D tb F) 8).a, w32 (s8At (vL D tb F) 8).b, w32 (s8At (vL D tb F) 8).c, w32 (s8At (vL D tb F) 8).d, w32 (s8At (vL D tb F) 8).e, w32 (s8At (vL D tb F) 8).f, w32 (s8At (vL D tb F) 8).g, w32 (s8At (vL D tb F) 8).h]) isAgg24 sizeOf24 rfl .tk (s8At_cells (k := 8) (by omega)) rfl) ?_
  refine .v rfl (.sliceArrLH underlying184 sizeOf23 rfl rfl rfl (by decide) (by decide) (by decide)) ?_
  refine .v rfl (.toArrPtr underlying24 rfl (by decide)) ?_
  refine .v rfl (.loadAgg (vs := [w32 (s8At (vL D tb F) 16).a, w32 (s8At (vL D tb F) 16).b, w32 (s8At (vL D tb F) 16).c, w32 (s8At (vL D tb F) 16).d, w32 (s8At (vL D tb F) 16).e, w32 (s8At (vL D tb F) 16).f, w32 (s8At (vL D tb F) 16).g, w32 (s8At (vL D tb F) 16).h]) isAgg24 sizeOf24 rfl .tk (s8At_cells (k := 16) (by omega)) rfl) ?_
  refine .eff rfl (fun fu_ li_ hk_ hs_ hl_ => ?_)
  refine .call call115 (S_wardenref16_Verify (K := K) (M := s8At (vL D tb F) 0) (D := s8At (vL D tb F) 8) (T := s8At (vL D tb F) 16)) rfl .pk rfl (fun x74 hx74 => ?_)
  refine .nil (TS.back hk_ hs_ hl_ .pk ?_)
  refine .done (TQ.then ?_)
  first | refine .cond_dec rfl (fun h2 => ?_) (fun h2 => ?_) | refine .cond rfl (fun h2 => ?_) (fun h2 => ?_)
  ·
   refine .region (.v (.field fo_82_0_WRef19 rfl) (.v (.ixArr1 underlying35 sizeOf23 rfl rfl (by decide)) ?_))
   refine .storeTo (v := w32 1#32) (new := { F with r0 := 0#32, r1 := 1#32 }.cells) sizeOf23 rfl rfl rfl .up rfl (by show 1 < 19; decide) ?_
   refine .nil (TQ.then (.seq (.region (.v (.loadAgg (vs := { F with r0 := 0#32, r1 := 1#32 }.cells) isAgg82 sizeOf82 rfl .tk (by rfl) (by rfl)) ?_))))
   refine .storeAll (us := { F with r0 := 0#32, r1 := 1#32 }.cells) sizeOf82 rfl rfl rfl rfl .up rfl ?_
   refine .nil (TQ.then (.ret ?_))
   exact .ret results80 (.agg isAgg82 sizeOf82 rfl .tk (by rfl) (by rfl) .nil) Y (by rw [verR_ok hnb h2]; rfl) (by rw [verR_ok hnb h2]; exact hY) .en
  ·
   refine .skip (TQ.then (.seq (.region (.v (.loadAgg (vs := { F with r0 := 0#32, r1 := 0#32 }.cells) isAgg82 sizeOf82 rfl .tk (by rfl) (by rfl)) ?_))))
   refine .storeAll (us := { F with r0 := 0#32, r1 := 0#32 }.cells) sizeOf82 rfl rfl rfl rfl .up rfl ?_
   refine .nil (TQ.then (.ret ?_))
   exact .ret results80 (.agg isAgg82 sizeOf82 rfl .tk (by rfl) (by rfl) .nil) Y (by rw [verR_no hnb h2]; rfl) (by rw [verR_no hnb h2]; exact hY) .en

theorem fo_191_0_WRef19 : FieldOff prog 191 0 0 := FieldOff.of 23 1 underlying191 rfl sizeOf23 rfl
theorem fo_191_1_WRef19 : FieldOff prog 191 1 1 := FieldOff.of 4 1 underlying191 rfl sizeOf4 rfl
theorem fo_191_2_WRef19 : FieldOff prog 191 2 2 := FieldOff.of 4 1 underlying191 rfl sizeOf4 rfl
theorem pl_197_WRef19 : Places prog 197 [(0, 1), (1, 1), (2, 1), (3, 1)] := ⟨_, underlying197, fun w => by simp [sizeOf3, sizeOf4]⟩
set_option maxHeartbeats 1000000 in
theorem S_wardenref19_Asked_maps {a d m : Nat} {D : Db} {sp tb : Int} {F : File} : Spec prog 81 [ptr a].toArray [RDbA d m D, RAskR a d sp tb F] (fun _ : Unit => True) (fun _ => ((mapR D sp F).f.ret (mapR D sp F).code).val) (fun _ => [RDbA d m (mapR D sp F).db, RAskR a d sp tb F]) := by
 refine Spec.body func81 rfl ntmps81 rfl (fun σ R => ?_)
 refine .seq (.region (.alloc zeroValue82 rfl rfl (fun b2 => ?_)))
 refine .nil (TQ.then (.seq (.seq (.region (.v (.move rfl) (.call call116 (S_wardenref19_Asked_owns) rfl .pk rfl (fun x7 hx7 => ?_)))))))
 refine .v (by first | exact Val.not_dec rfl | exact Val.not rfl) ?_
 refine .nil (TQ.then ?_)
 first | refine .cond_dec rfl (fun h1 => ?_) (fun h1 => ?_) | refine .cond rfl (fun h1 => ?_) (fun h1 => ?_)
 ·
  refine .seq (.region (.v (.move rfl) (.call call87 (S_wardenref19_Asked_answers (F := F) (c := 18#32)) rfl .pk rfl (fun x10 hx10 => ?_))))
  refine .storeAll sizeOf82 rfl rfl rfl rfl .up rfl ?_
  refine .nil (TQ.then (.ret (.then_ret ?_)))
  exact .ret results81 (.agg isAgg82 sizeOf82 rfl .tk (by rfl) (by rfl) .nil) () (by rw [mapR_1 h1]; rfl) trivial (by rw [mapR_1 h1]; exact .en)
 ·
  replace h1 := Classical.byContradiction h1
  refine .skip (TQ.then (.seq (.region (.v (.move rfl) (.v (.nilCheck rfl) (.v (.field fo_149_3_WRef19 rfl) (.v (.field fo_82_0_WRef19 rfl) (.v (.ixArr1 underlying35 sizeOf23 rfl rfl (by decide)) ?_))))))))
  refine .v (.load isAgg23 rfl .tk (by rfl)) ?_
  refine .call call117 (S_wardenref14_Parse) rfl .pk rfl (fun x18 hx18 => ?_)
  refine .v (.move rfl) (.v (.extract rfl rfl) (.v (.extract rfl rfl) (.alloc zeroValue191 rfl rfl (fun b3 => ?_))))
  refine .storeAll (us := [_, _, _]) sizeOf191 rfl rfl rfl rfl .up rfl ?_
  refine .v (.assign rfl) (.nil (TQ.then (.seq (.seq (.region (.v (.move rfl) (.v (.neq rfl rfl) (.nil (TQ.then ?_)))))))))
  first | refine .cond_dec rfl (fun h2 => ?_) (fun h2 => ?_) | refine .cond rfl (fun h2 => ?_) (fun h2 => ?_)
  ·
   refine .seq (.region (.v (.move rfl) (.call call87 (S_wardenref19_Asked_answers (F := F) (c := 6#32)) rfl .pk rfl (fun x24 hx24 => ?_))))
   refine .storeAll sizeOf82 rfl rfl rfl rfl .up rfl ?_
   refine .nil (TQ.then (.ret (.then_ret ?_)))
   exact .ret results81 (.agg isAgg82 sizeOf82 rfl .tk (by rfl) (by rfl) .nil) () (by rw [mapR_2 h1 h2]; rfl) trivial (by rw [mapR_2 h1 h2]; exact .en)
  ·
   refine .skip (TQ.then (.seq (.draw (H := [.row a _ _, .row b3 _ _]) (.q 0 (.q 1 (.q 2 (.q 3 (.q 4 (.q 5 (.q 6 (.q 7 (.q 8 (.q 9 (.e 10 (.q 11 .done)))))))))))) (by kernel_rfl) .pk (by kernel_rfl) (by kernel_rfl) (by kernel_rfl) ?_)))
   refine .v rfl (.move rfl) (.v rfl (.nilCheck rfl) (.v rfl (.field fo_149_0_WRef19 rfl) (.v rfl (.load isAgg57 rfl .tk (by rfl)) ?_)))
   refine .v rfl (.move rfl) (.v rfl (.nilCheck rfl) (.v rfl (.field fo_149_1_WRef19 rfl) (.v rfl (.load isAgg3 rfl .tk (by rfl)) ?_)))
   refine .v rfl (.field fo_191_0_WRef19 rfl) (.v rfl (.load isAgg23 rfl .tk (by rfl)) ?_)
   refine .eff rfl (fun fu_ li_ hk_ hs_ hl_ => ?_)
   refine .call call118 (S_wardenref14_Slot) rfl .pk rfl (fun x35 hx35 => ?_)
   refine .nil (TS.back hk_ hs_ hl_ .pk ?_)
   refine .v rfl (.assign rfl) (.done (TQ.then (.seq (.seq (.region (.v (.move rfl) (.v (.eql rfl rfl) (.nil (TQ.then ?_)))))))))
   first | refine .cond_dec rfl (fun h3 => ?_) (fun h3 => ?_) | refine .cond rfl (fun h3 => ?_) (fun h3 => ?_)
   ·
    refine .seq (.region (.v (.move rfl) (.call call87 (S_wardenref19_Asked_answers (F := F) (c := 7#32)) rfl .pk rfl (fun x39 hx39 => ?_))))
    refine .storeAll sizeOf82 rfl rfl rfl rfl .up rfl ?_
    refine .nil (TQ.then (.ret (.then_ret ?_)))
    exact .ret results81 (.agg isAgg82 sizeOf82 rfl .tk (by rfl) (by rfl) .nil) () (by rw [mapR_3 h1 h2 h3]; rfl) trivial (by rw [mapR_3 h1 h2 h3]; exact .en)
   ·
    refine .skip (TQ.then (.seq (.seq (.region (.v (.move rfl) (.v (.neq rfl rfl) (.nil (TQ.then ?_))))))))
    first | refine .cond_dec rfl (fun h4 => ?_) (fun h4 => ?_) | refine .cond rfl (fun h4 => ?_) (fun h4 => ?_)
    ·
     refine .seq (.region (.v (.move rfl) (.call call87 (S_wardenref19_Asked_answers (F := F) (c := 21#32)) rfl .pk rfl (fun x43 hx43 => ?_))))
     refine .storeAll sizeOf82 rfl rfl rfl rfl .up rfl ?_
     refine .nil (TQ.then (.ret (.then_ret ?_)))
     exact .ret results81 (.agg isAgg82 sizeOf82 rfl .tk (by rfl) (by rfl) .nil) () (by rw [mapR_4 h1 h2 h3 h4]; rfl) trivial (by rw [mapR_4 h1 h2 h3 h4]; exact .en)
    ·
     refine .skip (TQ.then (.seq (.region (.v (.move rfl) (.v (.nilCheck rfl) (.v (.field fo_149_3_WRef19 rfl) (.v (.field fo_82_0_WRef19 rfl) (.v (.ixArr1 underlying35 sizeOf23 rfl rfl (by decide)) ?_))))))))
     refine .v (.load isAgg23 rfl .tk (by rfl)) ?_
     refine .v (.conv_32_64 underlying23 underlying3 rfl) ?_
     refine .v (.assign rfl) (.nil (TQ.then (.seq (.region (.v (.move rfl) (.v (.nilCheck rfl) (.v (.field fo_149_0_WRef19 rfl) (.v (.load isAgg57 rfl .tk (by rfl)) ?_))))))))
     refine .v (.move rfl) (.call call25 (S_wardenref12_DB_Turn) rfl .pk rfl (fun x56 hx56 => ?_))
     refine .nil (TQ.then (.seq (.draw (H := [.row a _ _, .row b3 _ _]) (.q 0 (.q 1 (.q 2 (.q 3 (.q 4 (.q 5 (.q 6 (.q 7 (.q 8 (.q 9 (.q 10 (.q 11 (.q 12 (.q 13 (.q 14 (.q 15 (.e 16 .done))))))))))))))))) (by kernel_rfl) .pk (by kernel_rfl) (by kernel_rfl) (by kernel_rfl) ?_)))
     refine .v rfl (.move rfl) (.v rfl (.nilCheck rfl) (.v rfl (.field fo_149_0_WRef19 rfl) (.v rfl (.load isAgg57 rfl .tk (by rfl)) ?_)))
     refine .v rfl (.move rfl) (.v rfl (.nilCheck rfl) (.v rfl (.field fo_149_1_WRef19 rfl) (.v rfl (.load isAgg3 rfl .tk (by rfl)) ?_)))
     refine .v rfl (.field fo_191_0_WRef19 rfl) (.v rfl (.load isAgg23 rfl .tk (by rfl)) ?_)
     refine .v rfl (.move rfl) (.v rfl (.field fo_191_1_WRef19 rfl) (.v rfl (.load isAgg4 rfl .tk (by rfl)) ?_))
     refine .v rfl (.field fo_191_2_WRef19 rfl) (.v rfl (.load isAgg4 rfl .tk (by rfl)) ?_)
     refine .v rfl (.build (cs := [_, _, _, _]) zeroValue197 pl_197_WRef19 rfl rfl) ?_
     refine .eff rfl (fun fu_ li_ hk_ hs_ hl_ => ?_)
     refine .call call119 (S_wardenref14_Put (z := ⟨true, pg F, (parseM F.r2).1.wr, (parseM F.r2).1.ex⟩)) rfl .pk rfl (fun x73 hx73 => ?_)
     refine .nil (TS.back hk_ hs_ hl_ .pk ?_)
     refine .done (TQ.then (.seq (.region (.v (.move rfl) (.call call87 (S_wardenref19_Asked_answers (F := F) (c := 0#32)) rfl .pk rfl (fun x75 hx75 => ?_))))))
     refine .storeAll sizeOf82 rfl rfl rfl rfl .up rfl ?_
     refine .nil (TQ.then (.ret ?_))
     exact .ret results81 (.agg isAgg82 sizeOf82 rfl .tk (by rfl) (by rfl) .nil) () (by rw [mapR_5 h1 h2 (Classical.byContradiction h4)]; rfl) trivial (by rw [mapR_5 h1 h2 (Classical.byContradiction h4)]; exact .en)

set_option maxHeartbeats 2000000 in
theorem S_wardenref19_Asked_unmaps {a d m : Nat} {D : Db} {sp tb : Int} {F : File} : Spec prog 82 [ptr a].toArray [RDbA d m D, RAskR a d sp tb F] (fun _ : Unit => True) (fun _ => ((unmapR D sp F).f.ret (unmapR D sp F).code).val) (fun _ => [RDbA d m (unmapR D sp F).db, RAskR a d sp tb F]) := by
 refine Spec.body func82 rfl ntmps82 rfl (fun σ R => ?_)
 refine .seq (.region (.alloc zeroValue82 rfl rfl (fun b2 => ?_)))
 refine .nil (TQ.then (.seq (.seq (.region (.v (.move rfl) (.call call116 (S_wardenref19_Asked_owns) rfl .pk rfl (fun x9 hx9 => ?_)))))))
 refine .v (by first | exact Val.not_dec rfl | exact Val.not rfl) ?_
 refine .nil (TQ.then ?_)
 first | refine .cond_dec rfl (fun h1 => ?_) (fun h1 => ?_) | refine .cond rfl (fun h1 => ?_) (fun h1 => ?_)
 ·
  refine .seq (.region (.v (.move rfl) (.call call87 (S_wardenref19_Asked_answers (F := F) (c := 19#32)) rfl .pk rfl (fun x12 hx12 => ?_))))
  refine .storeAll sizeOf82 rfl rfl rfl rfl .up rfl ?_
  refine .nil (TQ.then (.ret (.then_ret ?_)))
  exact .ret results82 (.agg isAgg82 sizeOf82 rfl .tk (by rfl) (by rfl) .nil) () (by rw [unmapR_1 h1]; rfl) trivial (by rw [unmapR_1 h1]; exact .en)
 ·
  replace h1 := Classical.byContradiction h1
  refine .skip (TQ.then (.seq (.region (.v (.move rfl) (.v (.nilCheck rfl) (.v (.field fo_149_3_WRef19 rfl) (.v (.field fo_82_0_WRef19 rfl) (.v (.ixArr1 underlying35 sizeOf23 rfl rfl (by decide)) ?_))))))))
  refine .v (.load isAgg23 rfl .tk (by rfl)) ?_
  refine .call call117 (S_wardenref14_Parse) rfl .pk rfl (fun x20 hx20 => ?_)
  refine .v (.move rfl) (.v (.extract rfl rfl) (.v (.extract rfl rfl) (.alloc zeroValue191 rfl rfl (fun b3 => ?_))))
  refine .storeAll (us := [_, _, _]) sizeOf191 rfl rfl rfl rfl .up rfl ?_
  refine .v (.assign rfl) (.nil (TQ.then (.seq (.seq (.region (.v (.move rfl) (.v (.neq rfl rfl) (.nil (TQ.then ?_)))))))))
  first | refine .cond_dec rfl (fun h2 => ?_) (fun h2 => ?_) | refine .cond rfl (fun h2 => ?_) (fun h2 => ?_)
  ·
   refine .seq (.region (.v (.move rfl) (.call call87 (S_wardenref19_Asked_answers (F := F) (c := 6#32)) rfl .pk rfl (fun x26 hx26 => ?_))))
   refine .storeAll sizeOf82 rfl rfl rfl rfl .up rfl ?_
   refine .nil (TQ.then (.ret (.then_ret ?_)))
   exact .ret results82 (.agg isAgg82 sizeOf82 rfl .tk (by rfl) (by rfl) .nil) () (by rw [unmapR_2 h1 h2]; rfl) trivial (by rw [unmapR_2 h1 h2]; exact .en)
  ·
   refine .skip (TQ.then (.seq (.region (.v (.move rfl) (.v (.nilCheck rfl) (.v (.field fo_149_3_WRef19 rfl) (.v (.field fo_82_0_WRef19 rfl) (.v (.ixArr1 underlying35 sizeOf23 rfl rfl (by decide)) ?_))))))))
   refine .v (.load isAgg23 rfl .tk (by rfl)) ?_
   refine .v (.conv_32_64 underlying23 underlying3 rfl) ?_
   refine .v (.assign rfl) (.nil (TQ.then (.seq (.draw (H := [.row a _ _, .row b3 _ _]) (.q 0 (.q 1 (.q 2 (.q 3 (.q 4 (.q 5 (.q 6 (.q 7 (.q 8 (.q 9 (.b 10 (.q 11 (.q 12 (.q 13 (.e 14 (.e 15 (.q 16 .done)))))) 14 (.e 10 (.q 11 (.q 12 (.q 13 (.e 15 (.q 16 .done))))))))))))))))) (by kernel_rfl) .pk (by kernel_rfl) (by kernel_rfl) (by kernel_rfl) ?_))))
   refine .v rfl (.move rfl) (.v rfl (.nilCheck rfl) (.v rfl (.field fo_149_0_WRef19 rfl) (.v rfl (.load isAgg57 rfl .tk (by rfl)) ?_)))
   refine .v rfl (.move rfl) (.v rfl (.nilCheck rfl) (.v rfl (.field fo_149_1_WRef19 rfl) (.v rfl (.load isAgg3 rfl .tk (by rfl)) ?_)))
   refine .v rfl (.field fo_191_0_WRef19 rfl) (.v rfl (.load isAgg23 rfl .tk (by rfl)) ?_)
   refine .both rfl rfl (fun fu_ li_ hk_ hs_ hl_ => ?_) (fun fu_ li_ hk_ hs_ hl_ => ?_)
   ·
    refine .call call120 (S_wardenref14_At) rfl .pk rfl (fun x45 hx45 => ?_)
    refine .nil (TS.back hk_ hs_ hl_ .pk ?_)
    refine .v rfl (.move rfl) (.v rfl (.extract rfl rfl) (.v rfl (.extract rfl rfl) (.eff rfl (fun fu_ li_ hk_ hs_ hl_ => ?_))))
    refine .alloc zeroValue197 rfl rfl (fun b6 => ?_)
    refine .nil (TS.back hk_ hs_ hl_ .pk ?_)
    refine .eff rfl (fun fu_ li_ hk_ hs_ hl_ => ?_)
    refine .storeAll (us := [_, _, _, _]) sizeOf197 rfl rfl rfl rfl .up rfl ?_
    refine .nil (TS.back hk_ hs_ hl_ .pk ?_)
    refine .v rfl (.assign rfl) (.done (TQ.then (.seq (.seq (.region (.v (.move rfl) (.v (.eql rfl rfl) (.nil (TQ.then ?_)))))))))
    first | refine .cond_dec rfl (fun h3 => ?_) (fun h3 => ?_) | refine .cond rfl (fun h3 => ?_) (fun h3 => ?_)
    ·
     refine .seq (.region (.v (.move rfl) (.call call87 (S_wardenref19_Asked_answers (F := F) (c := 21#32)) rfl .pk rfl (fun x51 hx51 => ?_))))
     refine .storeAll sizeOf82 rfl rfl rfl rfl .up rfl ?_
     refine .nil (TQ.then (.ret (.then_ret ?_)))
     exact .ret results82 (.agg isAgg82 sizeOf82 rfl .tk (by rfl) (by rfl) .nil) () (by rw [unmapR_3 h1 h2 h3]; rfl) trivial (by rw [unmapR_3 h1 h2 h3]; exact .en)
    ·
     refine .skip (TQ.then (.seq (.region (.v (.move rfl) (.v (.field fo_191_1_WRef19 rfl) (.v (.load isAgg4 rfl .tk (by rfl)) ?_))))))
     refine .v (.field fo_191_2_WRef19 rfl) (.v (.load isAgg4 rfl .tk (by rfl)) ?_)
     refine .v (.build (cs := (⟨true, pg F, (parseM F.r2).1.wr, (parseM F.r2).1.ex⟩ : PMap).cells) zeroValue197 pl_197_WRef19 rfl rfl) ?_
     refine .alloc zeroValue197 rfl rfl (fun b7 => ?_)
     refine .storeAll (us := [_, _, _, _]) sizeOf197 rfl rfl rfl rfl .up rfl ?_
     refine .nil (TQ.then (.seq (.seq (.region (.v (.move rfl) (.v (.neq rfl rfl) (.v (.move rfl) ?_)))))))
     refine' TL.orG (k := 4) (dj := 60) (d := 64) rfl ?_ ?_ ?_
     rotate_left
     ·
      intro g64 hd
      first | replace g64 := of_decide_eq_false g64 | skip
      refine .want rfl rfl (.v (.loadAgg (vs := [_, _, _, _]) isAgg197 sizeOf197 rfl .tk (by rfl) (by rfl)) ?_)
      refine .want rfl rfl (.v (.loadAgg (vs := [_, _, _, _]) isAgg197 sizeOf197 rfl .tk (by rfl) (by rfl)) ?_)
      refine .want rfl rfl (.v (.neqAg eqGuardType197 isAgg197 sizeOf197 typeInfo197 rfl rfl (EqOk.struct underlying197 stoodInHeld197 typeInfo197 isAgg197 sizeOf197 rfl rfl (EqFs.cons (xs := [_]) (ys := [_]) (by decide) rfl (EqOk.bool underlying4 typeInfo4 isAgg4 sizeOf4) rfl (EqFs.cons (xs := [_]) (ys := [_]) (by decide) rfl (EqOk.int underlying3 typeInfo3 isAgg3 sizeOf3) rfl (EqFs.cons (xs := [_]) (ys := [_]) (by decide) rfl (EqOk.bool underlying4 typeInfo4 isAgg4 sizeOf4) rfl (EqFs.cons (xs := [_]) (ys := [_]) (by decide) rfl (EqOk.bool underlying4 typeInfo4 isAgg4 sizeOf4) rfl .nil)))))) ?_)
      refine .v (.pick_false rfl rfl) (.nil ?_)
      exact .keep (Sub.cons rfl (Sub.push rfl (Sub.push rfl (Sub.push rfl (Sub.push rfl (Sub.pushSame hd Sub.rfl'))))))
     ·
      intro g64 hd
      refine .skip rfl rfl rfl (.skip rfl rfl rfl (.skip rfl rfl rfl (.v (.pick_true rfl rfl) (.nil ?_))))
      exact .keep (Sub.cons rfl (Sub.push rfl (Sub.push rfl (Sub.push rfl (Sub.push rfl (Sub.pushSame hd Sub.rfl'))))))
     first | refine .boolOr ?_ | skip
     refine .nil (TQ.then ?_)
     first | refine .cond_dec rfl (fun h4 => ?_) (fun h4 => ?_) | refine .cond rfl (fun h4 => ?_) (fun h4 => ?_)
     ·
      replace h4 := ne_true (a := (atD D sp (parseM F.r2).1.va).1) (b := ⟨true, pg F, (parseM F.r2).1.wr, (parseM F.r2).1.ex⟩) h4
      refine .seq (.region (.v (.move rfl) (.call call87 (S_wardenref19_Asked_answers (F := F) (c := 7#32)) rfl .pk rfl (fun x66 hx66 => ?_))))
      refine .storeAll sizeOf82 rfl rfl rfl rfl .up rfl ?_
      refine .nil (TQ.then (.ret (.then_ret ?_)))
      exact .ret results82 (.agg isAgg82 sizeOf82 rfl .tk (by rfl) (by rfl) .nil) () (by rw [unmapR_4 h1 h2 h3 h4]; rfl) trivial (by rw [unmapR_4 h1 h2 h3 h4]; exact .en)
     ·
      replace h4 := ne_false (a := (atD D sp (parseM F.r2).1.va).1) (b := ⟨true, pg F, (parseM F.r2).1.wr, (parseM F.r2).1.ex⟩) h4
      refine .skip (TQ.then (.seq (.draw (H := [.row a _ _, .row b3 _ _]) (.q 0 (.q 1 (.q 2 (.q 3 (.q 4 (.q 5 (.q 6 (.q 7 (.q 8 (.q 9 (.e 10 .done))))))))))) (by kernel_rfl) .pk (by kernel_rfl) (by kernel_rfl) (by kernel_rfl) ?_)))
      refine .v rfl (.move rfl) (.v rfl (.nilCheck rfl) (.v rfl (.field fo_149_0_WRef19 rfl) (.v rfl (.load isAgg57 rfl .tk (by rfl)) ?_)))
      refine .v rfl (.move rfl) (.v rfl (.nilCheck rfl) (.v rfl (.field fo_149_1_WRef19 rfl) (.v rfl (.load isAgg3 rfl .tk (by rfl)) ?_)))
      refine .v rfl (.field fo_191_0_WRef19 rfl) (.v rfl (.load isAgg23 rfl .tk (by rfl)) ?_)
      refine .eff rfl (fun fu_ li_ hk_ hs_ hl_ => ?_)
      refine .call call121 (S_wardenref14_Cut) rfl .pk rfl (fun x77 hx77 => ?_)
      refine .nil (TS.back hk_ hs_ hl_ .pk ?_)
      refine .done (TQ.then (.seq (.region (.v (.move rfl) (.v (.nilCheck rfl) (.v (.field fo_149_0_WRef19 rfl) (.v (.load isAgg57 rfl .tk (by rfl)) ?_)))))))
      refine .v (.move rfl) (.call call25 (S_wardenref12_DB_Turn) rfl .pk rfl (fun x83 hx83 => ?_))
      refine .nil (TQ.then (.seq (.region (.v (.move rfl) (.call call87 (S_wardenref19_Asked_answers (F := F) (c := 0#32)) rfl .pk rfl (fun x85 hx85 => ?_))))))
      refine .storeAll sizeOf82 rfl rfl rfl rfl .up rfl ?_
      refine .nil (TQ.then (.ret ?_))
      exact .ret results82 (.agg isAgg82 sizeOf82 rfl .tk (by rfl) (by rfl) .nil) () (by rw [unmapR_5 h1 h2 h3 h4]; rfl) trivial (by rw [unmapR_5 h1 h2 h3 h4]; exact .en)
   ·
    refine .alloc zeroValue197 rfl rfl (fun b6 => ?_)
    refine .nil (TS.back hk_ hs_ hl_ .pk ?_)
    refine .eff rfl (fun fu_ li_ hk_ hs_ hl_ => ?_)
    refine .call call120 (S_wardenref14_At) rfl .pk rfl (fun x45 hx45 => ?_)
    refine .nil (TS.back hk_ hs_ hl_ .pk ?_)
    refine .v rfl (.move rfl) (.v rfl (.extract rfl rfl) (.v rfl (.extract rfl rfl) (.eff rfl (fun fu_ li_ hk_ hs_ hl_ => ?_))))
    refine .storeAll (us := [_, _, _, _]) sizeOf197 rfl rfl rfl rfl .up rfl ?_
    refine .nil (TS.back hk_ hs_ hl_ .pk ?_)
    refine .v rfl (.assign rfl) (.done (TQ.then (.seq (.seq (.region (.v (.move rfl) (.v (.eql rfl rfl) (.nil (TQ.then ?_)))))))))
    first | refine .cond_dec rfl (fun h3 => ?_) (fun h3 => ?_) | refine .cond rfl (fun h3 => ?_) (fun h3 => ?_)
    ·
     refine .seq (.region (.v (.move rfl) (.call call87 (S_wardenref19_Asked_answers (F := F) (c := 21#32)) rfl .pk rfl (fun x51 hx51 => ?_))))
     refine .storeAll sizeOf82 rfl rfl rfl rfl .up rfl ?_
     refine .nil (TQ.then (.ret (.then_ret ?_)))
     exact .ret results82 (.agg isAgg82 sizeOf82 rfl .tk (by rfl) (by rfl) .nil) () (by rw [unmapR_3 h1 h2 h3]; rfl) trivial (by rw [unmapR_3 h1 h2 h3]; exact .en)
    ·
     refine .skip (TQ.then (.seq (.region (.v (.move rfl) (.v (.field fo_191_1_WRef19 rfl) (.v (.load isAgg4 rfl .tk (by rfl)) ?_))))))
     refine .v (.field fo_191_2_WRef19 rfl) (.v (.load isAgg4 rfl .tk (by rfl)) ?_)
     refine .v (.build (cs := (⟨true, pg F, (parseM F.r2).1.wr, (parseM F.r2).1.ex⟩ : PMap).cells) zeroValue197 pl_197_WRef19 rfl rfl) ?_
     refine .alloc zeroValue197 rfl rfl (fun b7 => ?_)
     refine .storeAll (us := [_, _, _, _]) sizeOf197 rfl rfl rfl rfl .up rfl ?_
     refine .nil (TQ.then (.seq (.seq (.region (.v (.move rfl) (.v (.neq rfl rfl) (.v (.move rfl) ?_)))))))
     refine' TL.orG (k := 4) (dj := 60) (d := 64) rfl ?_ ?_ ?_
     rotate_left
     ·
      intro g64 hd
      first | replace g64 := of_decide_eq_false g64 | skip
      refine .want rfl rfl (.v (.loadAgg (vs := [_, _, _, _]) isAgg197 sizeOf197 rfl .tk (by rfl) (by rfl)) ?_)
      refine .want rfl rfl (.v (.loadAgg (vs := [_, _, _, _]) isAgg197 sizeOf197 rfl .tk (by rfl) (by rfl)) ?_)
      refine .want rfl rfl (.v (.neqAg eqGuardType197 isAgg197 sizeOf197 typeInfo197 rfl rfl (EqOk.struct underlying197 stoodInHeld197 typeInfo197 isAgg197 sizeOf197 rfl rfl (EqFs.cons (xs := [_]) (ys := [_]) (by decide) rfl (EqOk.bool underlying4 typeInfo4 isAgg4 sizeOf4) rfl (EqFs.cons (xs := [_]) (ys := [_]) (by decide) rfl (EqOk.int underlying3 typeInfo3 isAgg3 sizeOf3) rfl (EqFs.cons (xs := [_]) (ys := [_]) (by decide) rfl (EqOk.bool underlying4 typeInfo4 isAgg4 sizeOf4) rfl (EqFs.cons (xs := [_]) (ys := [_]) (by decide) rfl (EqOk.bool underlying4 typeInfo4 isAgg4 sizeOf4) rfl .nil)))))) ?_)
      refine .v (.pick_false rfl rfl) (.nil ?_)
      exact .keep (Sub.cons rfl (Sub.push rfl (Sub.push rfl (Sub.push rfl (Sub.push rfl (Sub.pushSame hd Sub.rfl'))))))
     ·
      intro g64 hd
      refine .skip rfl rfl rfl (.skip rfl rfl rfl (.skip rfl rfl rfl (.v (.pick_true rfl rfl) (.nil ?_))))
      exact .keep (Sub.cons rfl (Sub.push rfl (Sub.push rfl (Sub.push rfl (Sub.push rfl (Sub.pushSame hd Sub.rfl'))))))
     first | refine .boolOr ?_ | skip
     refine .nil (TQ.then ?_)
     first | refine .cond_dec rfl (fun h4 => ?_) (fun h4 => ?_) | refine .cond rfl (fun h4 => ?_) (fun h4 => ?_)
     ·
      replace h4 := ne_true (a := (atD D sp (parseM F.r2).1.va).1) (b := ⟨true, pg F, (parseM F.r2).1.wr, (parseM F.r2).1.ex⟩) h4
      refine .seq (.region (.v (.move rfl) (.call call87 (S_wardenref19_Asked_answers (F := F) (c := 7#32)) rfl .pk rfl (fun x66 hx66 => ?_))))
      refine .storeAll sizeOf82 rfl rfl rfl rfl .up rfl ?_
      refine .nil (TQ.then (.ret (.then_ret ?_)))
      exact .ret results82 (.agg isAgg82 sizeOf82 rfl .tk (by rfl) (by rfl) .nil) () (by rw [unmapR_4 h1 h2 h3 h4]; rfl) trivial (by rw [unmapR_4 h1 h2 h3 h4]; exact .en)
     ·
      replace h4 := ne_false (a := (atD D sp (parseM F.r2).1.va).1) (b := ⟨true, pg F, (parseM F.r2).1.wr, (parseM F.r2).1.ex⟩) h4
      refine .skip (TQ.then (.seq (.draw (H := [.row a _ _, .row b3 _ _]) (.q 0 (.q 1 (.q 2 (.q 3 (.q 4 (.q 5 (.q 6 (.q 7 (.q 8 (.q 9 (.e 10 .done))))))))))) (by kernel_rfl) .pk (by kernel_rfl) (by kernel_rfl) (by kernel_rfl) ?_)))
      refine .v rfl (.move rfl) (.v rfl (.nilCheck rfl) (.v rfl (.field fo_149_0_WRef19 rfl) (.v rfl (.load isAgg57 rfl .tk (by rfl)) ?_)))
      refine .v rfl (.move rfl) (.v rfl (.nilCheck rfl) (.v rfl (.field fo_149_1_WRef19 rfl) (.v rfl (.load isAgg3 rfl .tk (by rfl)) ?_)))
      refine .v rfl (.field fo_191_0_WRef19 rfl) (.v rfl (.load isAgg23 rfl .tk (by rfl)) ?_)
      refine .eff rfl (fun fu_ li_ hk_ hs_ hl_ => ?_)
      refine .call call121 (S_wardenref14_Cut) rfl .pk rfl (fun x77 hx77 => ?_)
      refine .nil (TS.back hk_ hs_ hl_ .pk ?_)
      refine .done (TQ.then (.seq (.region (.v (.move rfl) (.v (.nilCheck rfl) (.v (.field fo_149_0_WRef19 rfl) (.v (.load isAgg57 rfl .tk (by rfl)) ?_)))))))
      refine .v (.move rfl) (.call call25 (S_wardenref12_DB_Turn) rfl .pk rfl (fun x83 hx83 => ?_))
      refine .nil (TQ.then (.seq (.region (.v (.move rfl) (.call call87 (S_wardenref19_Asked_answers (F := F) (c := 0#32)) rfl .pk rfl (fun x85 hx85 => ?_))))))
      refine .storeAll sizeOf82 rfl rfl rfl rfl .up rfl ?_
      refine .nil (TQ.then (.ret ?_))
      exact .ret results82 (.agg isAgg82 sizeOf82 rfl .tk (by rfl) (by rfl) .nil) () (by rw [unmapR_5 h1 h2 h3 h4]; rfl) trivial (by rw [unmapR_5 h1 h2 h3 h4]; exact .en)

set_option maxHeartbeats 1000000 in
theorem S_wardenref19_Asked_grows {a d m : Nat} {D : Db} {sp tb : Int} {F : File} : Spec prog 83 [ptr a].toArray [RDbA d m D, RAskR a d sp tb F] (fun x : Db => x.same (growR D sp tb F).db) (fun x => ((growR D sp tb F).f.ret (growR D sp tb F).code).val) (fun x => [RDbA d m x, RAskR a d sp tb F]) := by
 refine Spec.body func83 rfl ntmps83 rfl (fun σ R => ?_)
 refine .seq (.region (.alloc zeroValue82 rfl rfl (fun b2 => ?_)))
 refine .nil (TQ.then (.seq (.seq (.region (.v (.move rfl) (.call call116 (S_wardenref19_Asked_owns) rfl .pk rfl (fun x8 hx8 => ?_)))))))
 refine .v (by first | exact Val.not_dec rfl | exact Val.not rfl) ?_
 refine .nil (TQ.then ?_)
 first | refine .cond_dec rfl (fun h1 => ?_) (fun h1 => ?_) | refine .cond rfl (fun h1 => ?_) (fun h1 => ?_)
 ·
  refine .seq (.region (.v (.move rfl) (.call call87 (S_wardenref19_Asked_answers (F := F) (c := 18#32)) rfl .pk rfl (fun x11 hx11 => ?_))))
  refine .storeAll sizeOf82 rfl rfl rfl rfl .up rfl ?_
  refine .nil (TQ.then (.ret (.then_ret ?_)))
  exact .ret results83 (.agg isAgg82 sizeOf82 rfl .tk (by rfl) (by rfl) .nil) D (by rw [growR_1 h1]; rfl) (by rw [growR_1 h1]; exact .refl) .en
 ·
  replace h1 := Classical.byContradiction h1
  refine .skip (TQ.then (.seq (.region (.v (.move rfl) (.v (.nilCheck rfl) (.v (.field fo_149_3_WRef19 rfl) (.v (.field fo_82_0_WRef19 rfl) (.v (.ixArr1 underlying35 sizeOf23 rfl rfl (by decide)) ?_))))))))
  refine .v (.load isAgg23 rfl .tk (by rfl)) ?_
  refine .v (.assign rfl) (.nil (TQ.then (.seq (.seq (.region (.v (.move rfl) (.v (.gtr32 (b := 255#32) rfl rfl) ?_)))))))
  refine .nil (TQ.then ?_)
  first | refine .cond_dec rfl (fun h2 => ?_) (fun h2 => ?_) | refine .cond rfl (fun h2 => ?_) (fun h2 => ?_)
  ·
   refine .seq (.region (.v (.move rfl) (.call call87 (S_wardenref19_Asked_answers (F := F) (c := 16#32)) rfl .pk rfl (fun x21 hx21 => ?_))))
   refine .storeAll sizeOf82 rfl rfl rfl rfl .up rfl ?_
   refine .nil (TQ.then (.ret (.then_ret ?_)))
   exact .ret results83 (.agg isAgg82 sizeOf82 rfl .tk (by rfl) (by rfl) .nil) D (by rw [growR_2 h1 h2]; rfl) (by rw [growR_2 h1 h2]; exact .refl) .en
  ·
   refine .skip (TQ.then (.seq (.drawK (H := [.ex fun DD : Db => RDbA d m DD, .row a _ _]) (.q 0 (.q 1 (.q 2 (.q 3 (.q 4 (.q 5 (.q 6 (.q 7 (.q 8 (.q 9 (.q 10 (.q 12 (.q 13 (.e 11 (.e 14 (.q 15 (.q 16 (.q 17 (.q 18 (.q 19 .done)))))))))))))))))))) (by kernel_rfl) (Knows.pickEx (A := fun DD : Db => RDbA d m DD) .pk) (by kernel_rfl) (by kernel_rfl) (by kernel_rfl) ?_)))
   refine .v rfl (.move rfl) (.v rfl (.nilCheck rfl) (.v rfl (.field fo_149_0_WRef19 rfl) (.v rfl (.load isAgg57 rfl .tk (by rfl)) ?_)))
   refine .v rfl (.nilCheck rfl) (.v rfl (.field fo_76_0_WRef19 rfl) (.v rfl (.loadC isAgg54 rfl .tk (fun w hw => RDbA.ptrX hw)) ?_))
   refine .v rfl (.move rfl) (.v rfl (.nilCheck rfl) (.v rfl (.field fo_149_2_WRef19 rfl) (.v rfl (.load isAgg3 rfl .tk (by rfl)) ?_)))
   refine .v rfl (.move rfl) (.v rfl (.conv_32_64 underlying23 underlying3 rfl) ?_)
   refine .eff rfl (fun fu_ li_ hk_ hs_ hl_ => ?_)
   refine .call call122 (S_wardenref19_frame) rfl .pk rfl (fun x34 hx34 => ?_)
   refine .nil (TS.backK hk_ hs_ hl_ (Knows.pickEx (A := fun DD : Db => RDbA d m DD) .pk) ?_)
   refine .eff rfl (fun fu_ li_ hk_ hs_ hl_ => ?_)
   refine .call call114 (S_RReadD) rfl .pk rfl (fun x37 hx37 => ?_)
   refine .nil (TS.backK hk_ hs_ hl_ (Knows.pickEx (A := fun DD : Db => RDbA d m DD) .pk) ?_)
   refine .v rfl (.move rfl) (.v rfl (.extract rfl rfl) (.v rfl (.extract rfl rfl) (.v rfl (.assign rfl) (.v rfl (.assign rfl) (.done (TQ.then (.seq (.seq (.region (.v (.move rfl) (.v (.neq32 (b := 0#32) rfl rfl) ?_)))))))))))
   refine .nil (TQ.then ?_)
   first | refine .cond_dec rfl (fun h3 => ?_) (fun h3 => ?_) | refine .cond rfl (fun h3 => ?_) (fun h3 => ?_)
   ·
    refine .seq (.region (.v (.move rfl) (.call call87 (S_wardenref19_Asked_answers (F := F) (c := 7#32)) rfl .pk rfl (fun x43 hx43 => ?_))))
    refine .storeAll sizeOf82 rfl rfl rfl rfl .up rfl ?_
    refine .nil (TQ.then (.ret (.then_ret ?_)))
    exact .ret results83 (.agg isAgg82 sizeOf82 rfl .tk (by rfl) (by rfl) .nil) (D.tk (rdT D.mem true tb (F.r2.toNat : Int))) (by rw [growR_3 h1 h2 h3]; rfl) (by rw [growR_3 h1 h2 h3]; exact ((Db.near.refl (D := D) (K := 0)).tk (Nat.le_refl _)).same) .en
   ·
    refine .skip (TQ.then (.seq (.region (.v (.move rfl) (.v (.nilCheck rfl) (.v (.field fo_149_3_WRef19 rfl) (.v (.field fo_82_0_WRef19 rfl) (.v (.ixArr1 underlying35 sizeOf23 rfl rfl (by decide)) ?_))))))))
    refine .v (.load isAgg23 rfl .tk (by rfl)) ?_
    refine .v (.conv_32_64 underlying23 underlying3 rfl) ?_
    refine .v (.assign rfl) (.nil (TQ.then (.seq (.region (.v (.move rfl) (.v (.nilCheck rfl) (.v (.field fo_149_0_WRef19 rfl) (.v (.load isAgg57 rfl .tk (by rfl)) ?_))))))))
    refine .v (.move rfl) (.call call25 (S_wardenref12_DB_Turn) rfl .pk rfl (fun x56 hx56 => ?_))
    refine .nil (TQ.then (.seq (.draw (H := [.row a _ _]) (.q 0 (.q 1 (.q 2 (.q 3 (.q 4 (.q 5 (.q 6 (.q 7 (.q 8 (.q 9 (.q 10 (.e 11 .done)))))))))))) (by kernel_rfl) .pk (by kernel_rfl) (by kernel_rfl) (by kernel_rfl) ?_)))
    refine .v rfl (.move rfl) (.v rfl (.nilCheck rfl) (.v rfl (.field fo_149_0_WRef19 rfl) (.v rfl (.load isAgg57 rfl .tk (by rfl)) ?_)))
    refine .v rfl (.move rfl) (.v rfl (.nilCheck rfl) (.v rfl (.field fo_149_1_WRef19 rfl) (.v rfl (.load isAgg3 rfl .tk (by rfl)) ?_)))
    refine .v rfl (.move rfl) (.v rfl (.conv_32_64 underlying23 underlying3 rfl) ?_)
    refine .v rfl (.move rfl) (.eff rfl (fun fu_ li_ hk_ hs_ hl_ => ?_))
    refine .call call123 (S_wardenref14_AddTable) rfl .pk rfl (fun x68 hx68 => ?_)
    refine .nil (TS.back hk_ hs_ hl_ .pk ?_)
    refine .done (TQ.then (.seq (.region (.v (.move rfl) (.call call87 (S_wardenref19_Asked_answers (F := F) (c := 0#32)) rfl .pk rfl (fun x70 hx70 => ?_))))))
    refine .storeAll sizeOf82 rfl rfl rfl rfl .up rfl ?_
    refine .nil (TQ.then (.ret ?_))
    exact .ret results83 (.agg isAgg82 sizeOf82 rfl .tk (by rfl) (by rfl) .nil) _ (by rw [growR_4 h1 h2 h3]; rfl) (by rw [growR_4 h1 h2 h3]; exact (((Db.near.refl (D := D) (K := 0)).tk (rdT_le (M := D.mem) (s := true) (p := tb) (o := (F.r2.toNat : Int)))).turn.addT).same) .en

set_option maxHeartbeats 1000000 in
theorem S_wardenref19_Asked_draws {a d m : Nat} {D : Db} {sp tb : Int} {F : File} {S : List (List W)} {us : List Value} {v : Value} {A : Assn} (hR : Rd2 A v us S) : Spec prog 84 [ptr a, v].toArray [RDbA d m D, RAskR a d sp tb F, A] (fun x : Db => x.same (randR S D sp F).db) (fun x => ((randR S D sp F).f.ret (randR S D sp F).code).val) (fun x => [RDbA d m x, RAskR a d sp tb F, A]) := by
 refine Spec.body func84 rfl ntmps84 rfl (fun σ R => ?_)
 refine .seq (.region (.alloc zeroValue82 rfl rfl (fun b4 => ?_)))
 refine .nil (TQ.then (.seq (.region (.v (.move rfl) (.call call124 (S_wardenref19_Asked_word) rfl .pk rfl (fun x8 hx8 => ?_))))))
 refine .v (.conv_32_64 underlying23 underlying3 rfl) ?_
 refine .v (.assign rfl) (.nil (TQ.then (.seq (.region (.v (.move rfl) (.call call87 (S_wardenref19_Asked_answers (F := F) (c := 0#32)) rfl .pk rfl (fun x11 hx11 => ?_)))))))
 refine .alloc zeroValue82 rfl rfl (fun b6 => ?_)
 refine .storeAll (us := (F.ret 0#32).cells) sizeOf82 rfl rfl rfl rfl .up rfl ?_
 refine .nil (TQ.then (.seq (.region (.v (.move rfl) (.v (.move rfl) (.call call124 (S_wardenref19_Asked_word (F := F)) rfl .pk rfl (fun x14 hx14 => ?_)))))))
 rw [show (D.tk (rdT D.mem true sp 2)).pk sp 1 = D.pk sp 1 from Db.tk_pk]
 refine .v (.conv_32_64 underlying23 underlying3 rfl) ?_
 refine .v (.move rfl) (.call call13 (S_wardenref19_Draw hR) rfl .pk rfl (fun x17 hx17 => ?_))
 refine .v (.field fo_82_0_WRef19 rfl) (.v (.ixArr1 underlying35 sizeOf23 rfl rfl (by decide)) ?_)
 refine .storeTo (new := { F with r0 := 0#32, r1 := drawM S ((D.pk sp 1).toNat : Int) ((D.pk sp 2).toNat : Int) }.cells) sizeOf23 rfl rfl rfl .up rfl (by show 1 < 19; decide) ?_
 refine .nil (TQ.then (.seq (.seq ?_)))
 have h0 := (D.pk sp 2).isLt
 refine .region (.v (.move rfl) (.v (.lss rfl rfl) (.nil (TQ.then ?_))))
 first | refine .cond_dec rfl (fun h1 => ?_) (fun h1 => ?_) | refine .cond rfl (fun h1 => ?_) (fun h1 => ?_)
 ·
  refine .drawK (H := [.ex fun DD : Db => RDbA d m DD, .row a _ _]) (.q 0 (.q 1 (.q 2 (.q 3 (.q 4 (.q 5 (.q 6 (.q 7 (.q 8 (.q 9 (.q 10 (.q 12 (.q 13 (.q 14 (.e 11 (.e 15 .done)))))))))))))))) (by kernel_rfl) (Knows.pickEx (A := fun DD : Db => RDbA d m DD) .pk) (by kernel_rfl) (by kernel_rfl) (by kernel_rfl) ?_
  refine .v rfl (.move rfl) (.v rfl (.nilCheck rfl) (.v rfl (.field fo_149_0_WRef19 rfl) (.v rfl (.load isAgg57 rfl .tk (by rfl)) ?_)))
  refine .v rfl (.nilCheck rfl) (.v rfl (.field fo_76_0_WRef19 rfl) (.v rfl (.loadC isAgg54 rfl .tk (fun w hw => RDbA.ptrX hw)) ?_))
  refine .v rfl (.move rfl) (.v rfl (.nilCheck rfl) (.v rfl (.field fo_149_1_WRef19 rfl) (.v rfl (.load isAgg3 rfl .tk (by rfl)) ?_)))
  refine .v rfl (.move rfl) (.v rfl (.add64 rfl rfl (by omega)) ?_)
  refine .v rfl (show Val _ _ _ _ (w32 (D.pk sp 2 + 1#32)) from by rw [← ofInt_succ]; exact Val.conv_64_32 underlying3 underlying23 rfl) ?_
  refine .eff rfl (fun fu_ li_ hk_ hs_ hl_ => ?_)
  refine .call call122 (S_wardenref19_frame) rfl .pk rfl (fun x33 hx33 => ?_)
  refine .nil (TS.backK hk_ hs_ hl_ (Knows.pickEx (A := fun DD : Db => RDbA d m DD) .pk) ?_)
  refine .eff rfl (fun fu_ li_ hk_ hs_ hl_ => ?_)
  refine .call call36 (S_RWriteD) rfl .pk rfl (fun x37 hx37 => ?_)
  refine .nil (TS.backK hk_ hs_ hl_ (Knows.pickEx (A := fun DD : Db => RDbA d m DD) .pk) ?_)
  refine .done (TQ.then (.seq (.region (.v (.loadAgg (vs := { F with r0 := 0#32, r1 := drawM S ((D.pk sp 1).toNat : Int) ((D.pk sp 2).toNat : Int) }.cells) isAgg82 sizeOf82 rfl .tk (by rfl) (by rfl)) ?_))))
  refine .storeAll (us := { F with r0 := 0#32, r1 := drawM S ((D.pk sp 1).toNat : Int) ((D.pk sp 2).toNat : Int) }.cells) sizeOf82 rfl rfl rfl rfl .up rfl ?_
  refine .nil (TQ.then (.ret ?_))
  exact .ret results84 (.agg isAgg82 sizeOf82 rfl .tk (by rfl) (by rfl) .nil) (((D.tk (rdT D.mem true sp 2)).tk (rdT (D.tk (rdT D.mem true sp 2)).mem true sp 1)).wr sp 2 (D.pk sp 2 + 1#32)) rfl (by rw [randR, if_pos (show (D.pk sp 2).toNat < 4096 by omega)]; exact ((((Db.near.refl (D := D) (K := 0)).tk (rdT_le (M := D.mem) (s := true) (p := sp) (o := 2))).tk rdT_le).wr).same) .en
 ·
  refine .skip (TQ.then (.seq (.region (.v (.loadAgg (vs := { F with r0 := 0#32, r1 := drawM S ((D.pk sp 1).toNat : Int) ((D.pk sp 2).toNat : Int) }.cells) isAgg82 sizeOf82 rfl .tk (by rfl) (by rfl)) ?_))))
  refine .storeAll (us := { F with r0 := 0#32, r1 := drawM S ((D.pk sp 1).toNat : Int) ((D.pk sp 2).toNat : Int) }.cells) sizeOf82 rfl rfl rfl rfl .up rfl ?_
  refine .nil (TQ.then (.ret ?_))
  exact .ret results84 (.agg isAgg82 sizeOf82 rfl .tk (by rfl) (by rfl) .nil) ((D.tk (rdT D.mem true sp 2)).tk (rdT (D.tk (rdT D.mem true sp 2)).mem true sp 1)) rfl (by rw [randR, if_neg (show ¬ (D.pk sp 2).toNat < 4096 by omega)]; exact (((Db.near.refl (D := D) (K := 0)).tk (rdT_le (M := D.mem) (s := true) (p := sp) (o := 2))).tk (Nat.le_refl _)).same) .en

theorem fo_104_3_WRef19 : FieldOff prog 104 3 3 := FieldOff.of 3 1 underlying104 rfl sizeOf3 rfl
theorem pl_82_WRef19 : Places prog 82 [(0, 15), (15, 1), (16, 1), (17, 1), (18, 1)] := ⟨_, underlying82, fun w => by simp [sizeOf4, sizeOf23, sizeOf35]⟩
theorem pl_149_WRef19 : Places prog 149 [(0, 1), (1, 1), (2, 1), (3, 19)] := ⟨_, underlying149, fun w => by simp [sizeOf3, sizeOf57, sizeOf82]⟩
set_option maxHeartbeats 2000000 in
theorem S_wardenref19_Do {d m : Nat} {D : Db} {th : Int} {n : W} {F : File} {K : S8} {v : Value} {S : List (List W)} {us : List Value} {A : Assn} (hR : Rd2 A v us S) (hK1 : Tab A 1) : Spec prog 40 [ptr d, K.val, v, i64 th, w32 n, F.val].toArray [RDbA d m D, A] (fun x : Db => x.same (doR K S D th n F).db) (fun x => .tuple #[(doR K S D th n F).f.val, .bool (doR K S D th n F).out, w32 (doR K S D th n F).val, i64 (doR K S D th n F).err]) (fun x => [RDbA d m x, A]) := by
 refine Spec.body func40 rfl ntmps40 rfl (fun σ R => ?_)
 refine .seq (.region (.box (vs := [_, _, _, _, _, _, _, _]) rfl rfl rfl (fun b7 => ?_)))
 refine .box rfl rfl rfl (fun b11 => ?_)
 refine .alloc zeroValue82 rfl rfl (fun b12 => ?_)
 refine .v (.assign rfl) (.v (.assign (v := w32 0#32) rfl) (.v (.assign rfl) (.nil (TQ.then (.seq (.region (.v (.move rfl) (.v (.move rfl) (.call call77 (S_REntryD) rfl .pk rfl (fun x26 hx26 => ?_))))))))))
 refine .v (.move rfl) (.v (.extract rfl rfl) (.v (.extract rfl rfl) (.alloc zeroValue104 rfl rfl (fun b16 => ?_))))
 refine .storeAll (us := [_, _, _, _, _]) sizeOf104 rfl rfl rfl rfl .up rfl ?_
 refine .v (.assign rfl) (.nil (TQ.then (.seq (.seq (.region (.v (.move rfl) (.v (.neq rfl rfl) (.v (.move rfl) ?_))))))))
 refine' TL.orG (k := 4) (dj := 31) (d := 35) rfl ?_ ?_ ?_
 rotate_left
 ·
  intro g35 hd
  first | replace g35 := of_decide_eq_false g35 | skip
  refine .want rfl rfl (.v (.field fo_104_0_WRef19 rfl) (.want rfl rfl (.v (.load isAgg3 rfl .tk (by rfl)) ?_)))
  refine .want rfl rfl (.v (.neq rfl rfl) (.v (.pick_false rfl rfl) (.nil ?_)))
  exact .keep (Sub.cons rfl (Sub.push rfl (Sub.push rfl (Sub.push rfl (Sub.push rfl (Sub.pushSame hd Sub.rfl'))))))
 ·
  intro g35 hd
  refine .skip rfl rfl rfl (.skip rfl rfl rfl (.skip rfl rfl rfl (.v (.pick_true rfl rfl) (.nil ?_))))
  exact .keep (Sub.cons rfl (Sub.push rfl (Sub.push rfl (Sub.push rfl (Sub.push rfl (Sub.pushSame hd Sub.rfl'))))))
 first | refine .boolOr ?_ | skip
 refine .nil (TQ.then ?_)
 first | refine .cond_dec rfl (fun h1 => ?_) (fun h1 => ?_) | refine .cond rfl (fun h1 => ?_) (fun h1 => ?_)
 ·
  refine .seq (.region (.v (.buildS (zs := [.int .u32 0, .int .u32 0, .int .u32 0, .int .u32 0, .int .u32 0, .int .u32 0, .int .u32 0, .int .u32 0, .int .u32 0, .int .u32 0, .int .u32 0, .int .u32 0, .int .u32 0, .int .u32 0, .int .u32 0, .int .u32 0, .bool false, .bool false, .bool false]) (cs := [_, _, _, _, _, _, _, _, _, _, _, _, _, _, _, _, _, _, _]) zeroValue82 rfl pl_82_WRef19 (.nil rfl)) ?_))
  refine .storeAll sizeOf82 rfl rfl rfl rfl .up rfl ?_
  refine .v (.assign rfl) (.v (.assign (v := w32 0#32) rfl) (.v (.assign rfl) (.nil (TQ.then (.ret (.then_ret ?_))))))
  exact .ret results40 (.agg isAgg82 sizeOf82 rfl .tk (by rfl) (by rfl) (.tmp rfl (.tmp rfl (.tmp rfl .nil)))) D (by rw [doR_bad (.inl h1)]; rfl) (by rw [doR_bad (.inl h1)]; exact .refl) .en
 ·
  refine .skip (TQ.then (.seq (.region (.v (.move rfl) (.v (.field fo_104_1_WRef19 rfl) (.v (.load isAgg3 rfl .tk (by rfl)) ?_))))))
  refine .call call77 (S_REntryD) rfl .pk rfl (fun x41 hx41 => ?_)
  refine .v (.move rfl) (.v (.extract rfl rfl) (.v (.extract rfl rfl) (.alloc zeroValue104 rfl rfl (fun b18 => ?_))))
  refine .storeAll (us := [_, _, _, _, _]) sizeOf104 rfl rfl rfl rfl .up rfl ?_
  refine .v (.assign rfl) (.nil (TQ.then (.seq (.seq (.region (.v (.move rfl) (.v (.neq rfl rfl) (.v (.move rfl) ?_))))))))
  refine' TL.orG (k := 4) (dj := 46) (d := 50) rfl ?_ ?_ ?_
  rotate_left
  ·
   intro g50 hd
   first | replace g50 := of_decide_eq_false g50 | skip
   refine .want rfl rfl (.v (.field fo_104_0_WRef19 rfl) (.want rfl rfl (.v (.load isAgg3 rfl .tk (by rfl)) ?_)))
   refine .want rfl rfl (.v (.neq rfl rfl) (.v (.pick_false rfl rfl) (.nil ?_)))
   exact .keep (Sub.cons rfl (Sub.push rfl (Sub.push rfl (Sub.push rfl (Sub.push rfl (Sub.pushSame hd Sub.rfl'))))))
  ·
   intro g50 hd
   refine .skip rfl rfl rfl (.skip rfl rfl rfl (.skip rfl rfl rfl (.v (.pick_true rfl rfl) (.nil ?_))))
   exact .keep (Sub.cons rfl (Sub.push rfl (Sub.push rfl (Sub.push rfl (Sub.push rfl (Sub.pushSame hd Sub.rfl'))))))
  first | refine .boolOr ?_ | skip
  refine .v (.move rfl) ?_
  refine' TL.orG (k := 4) (dj := 51) (d := 55) rfl ?_ ?_ ?_
  rotate_left
  ·
   intro g55 hd
   first | replace g55 := of_decide_eq_false g55 | skip
   refine .want rfl rfl (.v (.field fo_104_3_WRef19 rfl) (.want rfl rfl (.v (.load isAgg3 rfl .tk (by rfl)) ?_)))
   refine .want rfl rfl (.v (.neq rfl rfl) (.v (.pick_false rfl rfl) (.nil ?_)))
   exact .keep (Sub.cons rfl (Sub.push rfl (Sub.push rfl (Sub.push rfl (Sub.push rfl (Sub.pushSame hd Sub.rfl'))))))
  ·
   intro g55 hd
   refine .skip rfl rfl rfl (.skip rfl rfl rfl (.skip rfl rfl rfl (.v (.pick_true rfl rfl) (.nil ?_))))
   exact .keep (Sub.cons rfl (Sub.push rfl (Sub.push rfl (Sub.push rfl (Sub.push rfl (Sub.pushSame hd Sub.rfl'))))))
  first | refine .boolOr ?_ | skip
  refine .nil (TQ.then ?_)
  first | refine .cond_dec rfl (fun h2 => ?_) (fun h2 => ?_) | refine .cond rfl (fun h2 => ?_) (fun h2 => ?_)
  ·
   refine .seq (.region (.v (.buildS (zs := [.int .u32 0, .int .u32 0, .int .u32 0, .int .u32 0, .int .u32 0, .int .u32 0, .int .u32 0, .int .u32 0, .int .u32 0, .int .u32 0, .int .u32 0, .int .u32 0, .int .u32 0, .int .u32 0, .int .u32 0, .int .u32 0, .bool false, .bool false, .bool false]) (cs := [_, _, _, _, _, _, _, _, _, _, _, _, _, _, _, _, _, _, _]) zeroValue82 rfl pl_82_WRef19 (.nil rfl)) ?_))
   refine .storeAll sizeOf82 rfl rfl rfl rfl .up rfl ?_
   refine .v (.assign rfl) (.v (.assign (v := w32 0#32) rfl) (.v (.assign rfl) (.nil (TQ.then (.ret (.then_ret ?_))))))
   exact .ret results40 (.agg isAgg82 sizeOf82 rfl .tk (by rfl) (by rfl) (.tmp rfl (.tmp rfl (.tmp rfl .nil)))) D (by rw [doR_bad (.inr (.inl h2))]; rfl) (by rw [doR_bad (.inr (.inl h2))]; exact .refl) .en
  ·
   refine .skip (TQ.then (.seq (.region (.v (.move rfl) (.v (.field fo_104_1_WRef19 rfl) (.v (.load isAgg3 rfl .tk (by rfl)) ?_))))))
   refine .call call78 (S_wardenref14_Table) rfl .pk rfl (fun x61 hx61 => ?_)
   refine .v (.move rfl) (.v (.extract rfl rfl) (.v (.extract rfl rfl) (.v (.assign rfl) (.v (.assign rfl) (.nil (TQ.then (.seq (.seq (.region (.v (.move rfl) (.v (.neq rfl rfl) (.nil (TQ.then ?_)))))))))))))
   first | refine .cond_dec rfl (fun h3 => ?_) (fun h3 => ?_) | refine .cond rfl (fun h3 => ?_) (fun h3 => ?_)
   ·
    refine .seq (.region (.v (.buildS (zs := [.int .u32 0, .int .u32 0, .int .u32 0, .int .u32 0, .int .u32 0, .int .u32 0, .int .u32 0, .int .u32 0, .int .u32 0, .int .u32 0, .int .u32 0, .int .u32 0, .int .u32 0, .int .u32 0, .int .u32 0, .int .u32 0, .bool false, .bool false, .bool false]) (cs := [_, _, _, _, _, _, _, _, _, _, _, _, _, _, _, _, _, _, _]) zeroValue82 rfl pl_82_WRef19 (.nil rfl)) ?_))
    refine .storeAll sizeOf82 rfl rfl rfl rfl .up rfl ?_
    refine .v (.assign rfl) (.v (.assign (v := w32 0#32) rfl) (.v (.assign rfl) (.nil (TQ.then (.ret (.then_ret ?_))))))
    exact .ret results40 (.agg isAgg82 sizeOf82 rfl .tk (by rfl) (by rfl) (.tmp rfl (.tmp rfl (.tmp rfl .nil)))) D (by rw [doR_bad (.inr (.inr h3))]; rfl) (by rw [doR_bad (.inr (.inr h3))]; exact .refl) .en
   ·
    have hnb : ¬ doBad D th := fun c => c.elim h1 (fun c => c.elim h2 h3)
    refine .skip (TQ.then (.seq (.region (.v (.move rfl) (.v (.field fo_104_1_WRef19 rfl) (.v (.load isAgg3 rfl .tk (by rfl)) ?_))))))
    refine .v (.move rfl) (.v (.loadAgg (vs := F.cells) isAgg82 sizeOf82 rfl .tk (by rfl) (by rfl)) ?_)
    refine .v (.buildS (zs := [.pointer none, .int .i64 0, .int .i64 0, .int .u32 0, .int .u32 0, .int .u32 0, .int .u32 0, .int .u32 0, .int .u32 0, .int .u32 0, .int .u32 0, .int .u32 0, .int .u32 0, .int .u32 0, .int .u32 0, .int .u32 0, .int .u32 0, .int .u32 0, .int .u32 0, .bool false, .bool false, .bool false]) (cs := [_, _, _, _, _, _, _, _, _, _, _, _, _, _, _, _, _, _, _, _, _, _]) zeroValue149 rfl pl_149_WRef19 (.cons (us := [_]) rfl rfl rfl rfl rfl (.cons (us := [_]) rfl rfl rfl rfl rfl (.cons (us := [_]) rfl rfl rfl rfl rfl (.cons (us := [_, _, _, _, _, _, _, _, _, _, _, _, _, _, _, _, _, _, _]) rfl rfl rfl rfl rfl (.nil rfl)))))) ?_
    refine .box rfl rfl rfl (fun b73 => ?_)
    refine .v (.assign rfl) (.nil (TQ.then (.seq (.seq (.region (.v (.move rfl) (.nil (TQ.then (.block (.seq (.region (.v (.eql32 (b := 0#32) rfl rfl) ?_))))))))))))
    refine .v (.assign rfl) (.nil (TQ.then ?_))
    first | refine .cond_dec rfl (fun h4 => ?_) (fun h4 => ?_) | refine .cond rfl (fun h4 => ?_) (fun h4 => ?_)
    ·
     refine .seq (.draw (H := [.row b11 _ _]) (.q 1 (.q 2 (.b 0 (.b 3 (.e 4 (.q 5 (.q 6 (.q 7 .done)))) 4 (.q 5 (.e 3 (.q 6 (.q 7 .done))))) 3 (.e 0 (.e 4 (.q 5 (.q 6 (.q 7 .done)))))))) (by kernel_rfl) .pk (by kernel_rfl) (by kernel_rfl) (by kernel_rfl) ?_)
     refine .v rfl (.field fo_82_0_WRef19 rfl) (.v rfl (.ixArr1 underlying35 sizeOf23 rfl rfl (by decide)) ?_)
     refine .both rfl rfl (fun fu_ li_ hk_ hs_ hl_ => ?_) (fun fu_ li_ hk_ hs_ hl_ => ?_)
     ·
      refine .v (.loadAgg (vs := F.cells) isAgg82 sizeOf82 rfl .tk (by rfl) (by rfl)) ?_
      refine .nil (TS.back hk_ hs_ hl_ .pk ?_)
      refine .both rfl rfl (fun fu_ li_ hk_ hs_ hl_ => ?_) (fun fu_ li_ hk_ hs_ hl_ => ?_)
      ·
       refine .v (.load isAgg23 rfl .tk (by rfl)) ?_
       refine .nil (TS.back hk_ hs_ hl_ .pk ?_)
       refine .eff rfl (fun fu_ li_ hk_ hs_ hl_ => ?_)
       refine .storeAll sizeOf82 rfl rfl rfl rfl .up rfl ?_
       refine .nil (TS.back hk_ hs_ hl_ .pk ?_)
       refine .v rfl (.assign rfl) (.v rfl (.assign rfl) (.v rfl (.assign rfl) (.done (TQ.then (.ret (.blk_ret (.then_ret ?_)))))))
       exact .ret results40 (.agg isAgg82 sizeOf82 rfl .tk (by rfl) (by rfl) (.tmp rfl (.tmp rfl (.tmp rfl .nil)))) D (by rw [doR_exit hnb h4]; rfl) (by rw [doR_exit hnb h4]; exact .refl) .en
      ·
       refine .storeAll sizeOf82 rfl rfl rfl rfl .up rfl ?_
       refine .nil (TS.back hk_ hs_ hl_ .pk ?_)
       refine .v rfl (.assign rfl) (.eff rfl (fun fu_ li_ hk_ hs_ hl_ => ?_))
       refine .v (.load isAgg23 rfl .tk (by rfl)) ?_
       refine .nil (TS.back hk_ hs_ hl_ .pk ?_)
       refine .v rfl (.assign rfl) (.v rfl (.assign rfl) (.done (TQ.then (.ret (.blk_ret (.then_ret ?_))))))
       exact .ret results40 (.agg isAgg82 sizeOf82 rfl .tk (by rfl) (by rfl) (.tmp rfl (.tmp rfl (.tmp rfl .nil)))) D (by rw [doR_exit hnb h4]; rfl) (by rw [doR_exit hnb h4]; exact .refl) .en
     ·
      refine .v (.load isAgg23 rfl .tk (by rfl)) ?_
      refine .nil (TS.back hk_ hs_ hl_ .pk ?_)
      refine .eff rfl (fun fu_ li_ hk_ hs_ hl_ => ?_)
      refine .v (.loadAgg (vs := F.cells) isAgg82 sizeOf82 rfl .tk (by rfl) (by rfl)) ?_
      refine .nil (TS.back hk_ hs_ hl_ .pk ?_)
      refine .eff rfl (fun fu_ li_ hk_ hs_ hl_ => ?_)
      refine .storeAll sizeOf82 rfl rfl rfl rfl .up rfl ?_
      refine .nil (TS.back hk_ hs_ hl_ .pk ?_)
      refine .v rfl (.assign rfl) (.v rfl (.assign rfl) (.v rfl (.assign rfl) (.done (TQ.then (.ret (.blk_ret (.then_ret ?_)))))))
      exact .ret results40 (.agg isAgg82 sizeOf82 rfl .tk (by rfl) (by rfl) (.tmp rfl (.tmp rfl (.tmp rfl .nil)))) D (by rw [doR_exit hnb h4]; rfl) (by rw [doR_exit hnb h4]; exact .refl) .en
    ·
     refine .seq (.region (.v (.eql32 (b := 1#32) rfl rfl) ?_))
     refine .v (.assign rfl) (.nil (TQ.then ?_))
     first | refine .cond_dec rfl (fun h5 => ?_) (fun h5 => ?_) | refine .cond rfl (fun h5 => ?_) (fun h5 => ?_)
     ·
      refine .seq (.region (.v (.move rfl) (.v (.loadAgg (vs := [_, _, _, _, _, _, _, _]) isAgg24 sizeOf24 rfl .tk (by rfl) (by rfl)) ?_)))
      refine .call call79 (S_wardenref19_Asked_attests (K := K) (F := F)) rfl .pk rfl (fun x85 hx85 => ?_)
      refine .storeAll sizeOf82 rfl rfl rfl rfl .up rfl ?_
      refine .v (.assign rfl) (.v (.assign (v := w32 0#32) rfl) (.v (.assign rfl) (.nil (TQ.then (.ret (.blk_ret (.then_ret ?_)))))))
      exact .ret results40 (.agg isAgg82 sizeOf82 rfl .tk (by rfl) (by rfl) (.tmp rfl (.tmp rfl (.tmp rfl .nil)))) x85 (by rw [doR_call hnb h4 (callR_1  h5)]; rfl) (by rw [doR_call hnb h4 (callR_1  h5)]; exact hx85) .en
     ·
      refine .seq (.region (.v (.eql32 (b := 2#32) rfl rfl) ?_))
      refine .v (.assign rfl) (.nil (TQ.then ?_))
      first | refine .cond_dec rfl (fun h6 => ?_) (fun h6 => ?_) | refine .cond rfl (fun h6 => ?_) (fun h6 => ?_)
      ·
       refine .seq (.region (.v (.move rfl) (.v (.loadAgg (vs := [_, _, _, _, _, _, _, _]) isAgg24 sizeOf24 rfl .tk (by rfl) (by rfl)) ?_)))
       refine .call call80 (S_wardenref19_Asked_verifies (K := K) (F := F)) rfl .pk rfl (fun x90 hx90 => ?_)
       refine .storeAll sizeOf82 rfl rfl rfl rfl .up rfl ?_
       refine .v (.assign rfl) (.v (.assign (v := w32 0#32) rfl) (.v (.assign rfl) (.nil (TQ.then (.ret (.blk_ret (.then_ret ?_)))))))
       exact .ret results40 (.agg isAgg82 sizeOf82 rfl .tk (by rfl) (by rfl) (.tmp rfl (.tmp rfl (.tmp rfl .nil)))) x90 (by rw [doR_call hnb h4 (callR_2 h5 h6)]; rfl) (by rw [doR_call hnb h4 (callR_2 h5 h6)]; exact hx90) .en
      ·
       refine .seq (.region (.v (.eql32 (b := 3#32) rfl rfl) ?_))
       refine .v (.assign rfl) (.nil (TQ.then ?_))
       first | refine .cond_dec rfl (fun h7 => ?_) (fun h7 => ?_) | refine .cond rfl (fun h7 => ?_) (fun h7 => ?_)
       ·
        refine .seq (.region (.v (.move rfl) (.call call81 (S_wardenref19_Asked_maps (F := F)) rfl .pk rfl (fun x94 hx94 => ?_))))
        refine .storeAll sizeOf82 rfl rfl rfl rfl .up rfl ?_
        refine .v (.assign rfl) (.v (.assign (v := w32 0#32) rfl) (.v (.assign rfl) (.nil (TQ.then (.ret (.blk_ret (.then_ret ?_)))))))
        exact .ret results40 (.agg isAgg82 sizeOf82 rfl .tk (by rfl) (by rfl) (.tmp rfl (.tmp rfl (.tmp rfl .nil)))) (mapR D (D.get th).1.own F).db (by rw [doR_call hnb h4 (callR_3 h5 h6 h7)]; rfl) (by rw [doR_call hnb h4 (callR_3 h5 h6 h7)]; exact .refl) .en
       ·
        refine .seq (.region (.v (.eql32 (b := 4#32) rfl rfl) ?_))
        refine .v (.assign rfl) (.nil (TQ.then ?_))
        first | refine .cond_dec rfl (fun h8 => ?_) (fun h8 => ?_) | refine .cond rfl (fun h8 => ?_) (fun h8 => ?_)
        ·
         refine .seq (.region (.v (.move rfl) (.call call82 (S_wardenref19_Asked_unmaps (F := F)) rfl .pk rfl (fun x98 hx98 => ?_))))
         refine .storeAll sizeOf82 rfl rfl rfl rfl .up rfl ?_
         refine .v (.assign rfl) (.v (.assign (v := w32 0#32) rfl) (.v (.assign rfl) (.nil (TQ.then (.ret (.blk_ret (.then_ret ?_)))))))
         exact .ret results40 (.agg isAgg82 sizeOf82 rfl .tk (by rfl) (by rfl) (.tmp rfl (.tmp rfl (.tmp rfl .nil)))) (unmapR D (D.get th).1.own F).db (by rw [doR_call hnb h4 (callR_4 h5 h6 h7 h8)]; rfl) (by rw [doR_call hnb h4 (callR_4 h5 h6 h7 h8)]; exact .refl) .en
        ·
         refine .seq (.region (.v (.eql32 (b := 5#32) rfl rfl) ?_))
         refine .v (.assign rfl) (.nil (TQ.then ?_))
         first | refine .cond_dec rfl (fun h9 => ?_) (fun h9 => ?_) | refine .cond rfl (fun h9 => ?_) (fun h9 => ?_)
         ·
          refine .seq (.region (.v (.move rfl) (.call call83 (S_wardenref19_Asked_grows (F := F)) rfl .pk rfl (fun x102 hx102 => ?_))))
          refine .storeAll sizeOf82 rfl rfl rfl rfl .up rfl ?_
          refine .v (.assign rfl) (.v (.assign (v := w32 0#32) rfl) (.v (.assign rfl) (.nil (TQ.then (.ret (.blk_ret (.then_ret ?_)))))))
          exact .ret results40 (.agg isAgg82 sizeOf82 rfl .tk (by rfl) (by rfl) (.tmp rfl (.tmp rfl (.tmp rfl .nil)))) x102 (by rw [doR_call hnb h4 (callR_5 h5 h6 h7 h8 h9)]; rfl) (by rw [doR_call hnb h4 (callR_5 h5 h6 h7 h8 h9)]; exact hx102) .en
         ·
          refine .seq (.region (.v (.eql32 (b := 6#32) rfl rfl) ?_))
          refine .v (.assign rfl) (.nil (TQ.then ?_))
          first | refine .cond_dec rfl (fun h10 => ?_) (fun h10 => ?_) | refine .cond rfl (fun h10 => ?_) (fun h10 => ?_)
          ·
           refine .seq (.region (.v (.move rfl) (.v (.move rfl) (.call call84 (S_wardenref19_Asked_draws (F := F) hR) rfl .pk rfl (fun x107 hx107 => ?_)))))
           refine .storeAll sizeOf82 rfl rfl rfl rfl .up rfl ?_
           refine .v (.assign rfl) (.v (.assign (v := w32 0#32) rfl) (.v (.assign rfl) (.nil (TQ.then (.ret (.blk_ret (.then_ret ?_)))))))
           exact .ret results40 (.agg isAgg82 sizeOf82 rfl .tk (by rfl) (by rfl) (.tmp rfl (.tmp rfl (.tmp rfl .nil)))) x107 (by rw [doR_call hnb h4 (callR_6 h5 h6 h7 h8 h9 h10)]; rfl) (by rw [doR_call hnb h4 (callR_6 h5 h6 h7 h8 h9 h10)]; exact hx107) .en
          ·
           refine .seq (.region (.v (.eql32 (b := 7#32) rfl rfl) ?_))
           refine .v (.assign rfl) (.nil (TQ.then ?_))
           first | refine .cond_dec rfl (fun h11 => ?_) (fun h11 => ?_) | refine .cond rfl (fun h11 => ?_) (fun h11 => ?_)
           ·
            refine .seq (.region (.v (.move rfl) (.v (.move rfl) (.call call86 (S_wardenref19_Asked_measurement (F := F)) rfl .pk rfl (fun x112 hx112 => ?_)))))
            refine .call call85 (S_wardenref19_Asked_eight (F := F) (s := meas D (D.get th).1.own)) rfl .pk rfl (fun x113 hx113 => ?_)
            refine .storeAll sizeOf82 rfl rfl rfl rfl .up rfl ?_
            refine .v (.assign rfl) (.v (.assign (v := w32 0#32) rfl) (.v (.assign rfl) (.nil (TQ.then (.ret (.blk_ret (.then_ret ?_)))))))
            exact .ret results40 (.agg isAgg82 sizeOf82 rfl .tk (by rfl) (by rfl) (.tmp rfl (.tmp rfl (.tmp rfl .nil)))) (D.tk x112) (by rw [doR_call hnb h4 (callR_7 h5 h6 h7 h8 h9 h10 h11)]; rfl) (by rw [doR_call hnb h4 (callR_7 h5 h6 h7 h8 h9 h10 h11)]; exact (((Db.near.refl (D := D) (K := 0)).tk (Nat.le_refl x112)).same)) .en
           ·
            refine .skip (.blk_normal (TQ.then (.seq (.region (.v (.move rfl) (.call call87 (S_wardenref19_Asked_answers (F := F) (c := 15#32)) rfl .pk rfl (fun x115 hx115 => ?_)))))))
            refine .storeAll sizeOf82 rfl rfl rfl rfl .up rfl ?_
            refine .v (.assign rfl) (.v (.assign (v := w32 0#32) rfl) (.v (.assign rfl) (.nil (TQ.then (.ret ?_)))))
            exact .ret results40 (.agg isAgg82 sizeOf82 rfl .tk (by rfl) (by rfl) (.tmp rfl (.tmp rfl (.tmp rfl .nil)))) D (by rw [doR_none hnb h4 (callR_none (by simp only [not_or]; exact ⟨h5, h6, h7, h8, h9, h10, h11⟩))]; rfl) (by rw [doR_none hnb h4 (callR_none (by simp only [not_or]; exact ⟨h5, h6, h7, h8, h9, h10, h11⟩))]; exact .refl) .en
end Go.Wd
