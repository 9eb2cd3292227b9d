/- PROVED HERE: contracts of functions of the program, walked: each returns what the plain model says, for all items that its precondition names. No condition beyond each theorem's own. -/
import Derived.Test.YtkpomphooljgmaaGreatDoorProg
import Derived.Test.YtkpomphooljgmaaGreatDoorModel
import Derived.Test.YtkpomphooljgmaaGreatDoorPk
import Derived.Test.YtkpomphooljgmaaGreatDoorBase6
import Derived.Test.YtkpomphooljgmaaGreatDoorMLaw
import Derived.Test.YtkpomphooljgmaaGreatDoorWSvc2
import Derived.Test.YtkpomphooljgmaaGreatDoorWRef19
namespace Go.Wd
open Go Go.Proofs Go.Proofs.Tryz
theorem S_WriteS {d m : Nat} {D : Db} {sec : Bool} {pg off : Int} {v : W} : Spec prog 35 [ptr m, .agg #[.bool sec, i64 pg], i64 off, w32 v].toArray [DbA d m D] (fun _ : Unit => True) (fun _ => i64 (D.mem.write sec pg off v).1) (fun _ => [DbA d m (D.wrS sec pg off v)]) :=
 DbA.lift S_mem_Memory_Write fun _ => Mem.write_len.1
theorem S_RWriteS {d m : Nat} {D : Db} {sec : Bool} {pg off : Int} {v : W} : Spec prog 36 [ptr m, .agg #[.bool sec, i64 pg], i64 off, w32 v].toArray [RDbA d m D] (fun _ : Unit => True) (fun _ => i64 (D.mem.write sec pg off v).1) (fun _ => [RDbA d m (D.wrS sec pg off v)]) :=
 RDbA.lift S_wardenref07_Memory_Write fun _ => Mem.write_len.1
theorem size_ok {n : Int} (h : -9223372036854775808 ≤ n ∧ n ≤ 9223372036854775807) : 1 ≤ (n.tmod 8 + 8).tmod 8 + 1 ∧ (n.tmod 8 + 8).tmod 8 + 1 ≤ 8 := by
 have h1 := Int.tmod_lt_of_pos n (show (0 : Int) < 8 by decide)
 have h2 : -8 < n.tmod 8 := by have := Int.lt_tmod_of_pos n (show (0 : Int) < 8 by decide); omega
 rw [Int.tmod_eq_emod_of_nonneg (show 0 ≤ n.tmod 8 + 8 by omega)]
 omega
def sizeN (n : Int) : Nat := ((n.tmod 8 + 8).tmod 8 + 1).toNat
theorem sizeN_val {n : Int} : ((sizeN n : Nat) : Int) = (n.tmod 8 + 8).tmod 8 + 1 := by
 have h1 := Int.tmod_lt_of_pos n (show (0 : Int) < 8 by decide)
 have h2 : -8 < n.tmod 8 := by have := Int.lt_tmod_of_pos n (show (0 : Int) < 8 by decide); omega
 unfold sizeN
 rw [Int.tmod_eq_emod_of_nonneg (show 0 ≤ n.tmod 8 + 8 by omega)]
 omega
theorem sizeN_ok {n : Int} : 1 ≤ sizeN n ∧ sizeN n ≤ 8 := by
 have e := @sizeN_val n
 have h1 := Int.tmod_lt_of_pos n (show (0 : Int) < 8 by decide)
 have h2 : -8 < n.tmod 8 := by have := Int.lt_tmod_of_pos n (show (0 : Int) < 8 by decide); omega
 rw [Int.tmod_eq_emod_of_nonneg (show 0 ≤ n.tmod 8 + 8 by omega)] at e
 omega
theorem tmod8 {n : Int} : -8 < n.tmod 8 ∧ n.tmod 8 < 8 := ⟨by have := Int.lt_tmod_of_pos n (show (0 : Int) < 8 by decide); omega, Int.tmod_lt_of_pos n (show (0 : Int) < 8 by decide)⟩

set_option maxHeartbeats 400000 in
theorem S_wardenlaw19_size {n : Int} : Spec prog 15 [i64 n].toArray [] (fun _ : Unit => True) (fun _ => i64 (sizeN n)) (fun _ => []) := by
 refine Spec.body func15 rfl ntmps15 rfl (fun σ R => ?_)
 refine .seq (.region (.v (.assign rfl) (.nil (TQ.then (.seq (.region (.v (.move rfl) (.v (.remT rfl rfl (by decide)) ?_))))))))
 refine .v (.add64 rfl rfl (by have := @tmod8 n; omega)) ?_
 refine .v (.remT rfl rfl (by decide)) ?_
 refine .v (.add64 rfl rfl (by have := @tmod8 (n.tmod 8 + 8); omega)) ?_
 refine .v (.assign rfl) (.nil (TQ.then (.ret ?_)))
 exact .ret results15 (.tmp rfl .nil) () (by rw [sizeN_val]; rfl) trivial .en

set_option maxHeartbeats 400000 in
theorem S_wardenlaw19_num {n : Int} : Spec prog 16 [i64 n].toArray [] (fun _ : Unit => True) (fun _ => i64 n) (fun _ => []) := by
 refine Spec.body func16 rfl ntmps16 rfl (fun σ R => ?_)
 refine .seq (.region (.v (.assign rfl) (.nil (TQ.then (.seq (.region (.v (.move rfl) (.v (.assign rfl) (.nil (TQ.then (.ret ?_)))))))))))
 exact .ret results16 (.tmp rfl .nil) () (by first | rfl | simp [tup, *]) trivial .en

theorem pl_39_WLaw : Places prog 39 [(0, 1), (1, 1)] := ⟨_, underlying39, fun w => by simp [sizeOf3, sizeOf4]⟩
set_option maxHeartbeats 400000 in
theorem S_wardenlaw19_secure {n : Int} : Spec prog 63 [i64 n].toArray [] (fun _ : Unit => True) (fun _ => .agg #[.bool true, i64 n]) (fun _ => []) := by
 refine Spec.body func63 rfl ntmps63 rfl (fun σ R => ?_)
 refine .seq (.region (.alloc zeroValue39 rfl rfl (fun b2 => ?_)))
 refine .nil (TQ.then (.seq (.region (.v (.move rfl) (.v (.build (cs := [_, _]) zeroValue39 pl_39_WLaw rfl rfl) ?_)))))
 refine .storeAll (us := [_, _]) sizeOf39 rfl rfl rfl rfl .up rfl ?_
 refine .nil (TQ.then (.ret ?_))
 exact .ret results63 (.agg isAgg39 sizeOf39 rfl .tk (by rfl) (by rfl) .nil) () (by first | rfl | simp [tup, *]) trivial .en

theorem pl_60_WLaw : Places prog 60 [(0, 1), (1, 1), (2, 1)] := ⟨_, underlying60, fun w => by simp [sizeOf46, sizeOf52, sizeOf57]⟩
set_option maxHeartbeats 1000000 in
theorem S_wardenlaw19_begun {a b : Int} : Spec prog 4 [i64 a, i64 b].toArray [] (fun x : Nat × Nat × Nat × Nat × Nat => True) (fun x => ptr x.1) (fun x => [.row x.1 [ptr x.2.1, ptr x.2.2.1, ptr x.2.2.2.1] 60, DbA x.2.2.1 x.2.1 (Db.new (Mem.new (sizeN a) (sizeN b))), RDbA x.2.2.2.1 x.2.2.2.2 (Db.new (Mem.new (sizeN a) (sizeN b)))]) := by
 refine Spec.body func4 rfl ntmps4 rfl (fun σ R => ?_)
 have ha := @sizeN_ok a
 have hb := @sizeN_ok b
 have hl : ((Mem.new (sizeN a) (sizeN b))).sec.length = sizeN a := by simp [Mem.new]
 refine .seq (.region (.v (.assign rfl) (.nil (TQ.then (.seq (.region (.v (.move rfl) (.call call15 (S_wardenlaw19_size) rfl .pk rfl (fun x12 hx12 => ?_)))))))))
 refine .v (.move rfl) (.call call15 (S_wardenlaw19_size) rfl .pk rfl (fun x14 hx14 => ?_))
 refine .call call14 (S_mem_New (a := sizeN a) (b := sizeN b) (by omega) (by omega)) rfl .pk rfl (fun x15 hx15 => ?_)
 refine .v (.move rfl) (.v (.extract rfl rfl) (.v (.extract rfl rfl) (.v (.assign rfl) (.v (.assign rfl) (.nil (TQ.then (.seq (.seq (.region (.v (.move rfl) (.v (.eqlNil underlying46 rfl rfl) ?_)))))))))))
 refine .v (.move rfl) ?_
 refine' TL.orG (k := 4) (dj := 20) (d := 24) rfl ?_ ?_ ?_
 rotate_left
 ·
  intro g24 hd
  first | replace g24 := of_decide_eq_false g24 | skip
  refine .want rfl rfl (.v (.move rfl) (.want rfl rfl (.call call16 (S_wardenlaw19_num) rfl .pk rfl (fun x22 hx22 => ?_))))
  refine .want rfl rfl (.v (.neq rfl rfl) (.v (.pick_false rfl rfl) (.nil ?_)))
  exact .keepE (Sub.cons rfl (Sub.push rfl (Sub.push rfl (Sub.push rfl (Sub.push rfl (Sub.pushSame hd Sub.rfl')))))) .en
 ·
  intro g24 hd
  refine .skip rfl rfl rfl (.skip rfl rfl rfl (.skip rfl rfl rfl (.v (.pick_true rfl rfl) (.nil ?_))))
  exact .keepE (Sub.cons rfl (Sub.push rfl (Sub.push rfl (Sub.push rfl (Sub.push rfl (Sub.pushSame hd Sub.rfl')))))) .en
 first | refine .boolOr ?_ | skip
 refine .nil (TQ.then ?_)
 first | refine .cond_dec rfl (fun h1 => ?_) (fun h1 => ?_) | refine .cond rfl (fun h1 => ?_) (fun h1 => ?_)
 ·
  cases h1
 ·
  refine .skip (TQ.then (.seq (.region (.v (.move rfl) (.call call17 (S_pagedb_New (M := (Mem.new (sizeN a) (sizeN b))) (by omega)) rfl .pk rfl (fun x26 hx26 => ?_))))))
  refine .v (.assign rfl) (.nil (TQ.then (.seq (.seq (.region (.v (.move rfl) (.v (.eqlNil underlying52 rfl rfl) ?_)))))))
  refine .nil (TQ.then ?_)
  first | refine .cond_dec rfl (fun h2 => ?_) (fun h2 => ?_) | refine .cond rfl (fun h2 => ?_) (fun h2 => ?_)
  ·
   cases h2
  ·
   refine .skip (TQ.then (.seq (.region (.v (.move rfl) (.call call15 (S_wardenlaw19_size) rfl .pk rfl (fun x31 hx31 => ?_))))))
   refine .v (.move rfl) (.call call15 (S_wardenlaw19_size) rfl .pk rfl (fun x33 hx33 => ?_))
   refine .call call18 (S_wardenref07_New (a := sizeN a) (b := sizeN b) (by omega) (by omega)) rfl .pk rfl (fun x34 hx34 => ?_)
   refine .v (.move rfl) (.v (.extract rfl rfl) (.v (.extract rfl rfl) (.v (.assign rfl) (.v (.assign rfl) (.nil (TQ.then (.seq (.region (.v (.move rfl) (.v (.move rfl) (.v (.move rfl) (.call call19 (S_wardenref12_New (M := (Mem.new (sizeN a) (sizeN b))) (by omega)) rfl .pk rfl (fun x40 hx40 => ?_)))))))))))))
   refine .v (.build (cs := [_, _, _]) zeroValue60 pl_60_WLaw rfl rfl) ?_
   refine .box (vs := [_, _, _]) rfl rfl rfl (fun b42 => ?_)
   refine .v (.assign rfl) (.nil (TQ.then (.ret ?_)))
   exact .ret results4 (.tmp rfl .nil) (b42, x15, x26, x40, x34) (by first | rfl | simp [tup, *]) trivial .en

theorem S_costK {n : W} {k : Int} (h : (if 1 ≤ n.toNat ∧ n.toNat ≤ 5 then (64 : Int) else 1) = k) : Spec prog 10 [w32 n].toArray [] (fun _ : Unit => True) (fun _ => i64 k) (fun _ => []) := h ▸ S_svc_Cost

set_option maxHeartbeats 1000000 in
theorem S_wardenlaw19_costs  : Spec prog 5 [].toArray [] (fun _ : Unit => True) (fun _ => .bool true) (fun _ => []) := by
 refine Spec.body func5 rfl ntmps5 rfl (fun σ R => ?_)
 refine .seq (.region (.v (.assign rfl) (.nil (TQ.then (.seq (.region (.call call10 (S_costK (n := 0#32) (k := 1) (by decide)) rfl .pk rfl (fun x2 hx2 => ?_))))))))
 refine .call call10 (S_costK (n := 1#32) (k := 64) (by decide)) rfl .pk rfl (fun x3 hx3 => ?_)
 refine .v (.add64 rfl rfl (by omega)) ?_
 refine .call call10 (S_costK (n := 2#32) (k := 64) (by decide)) rfl .pk rfl (fun x5 hx5 => ?_)
 refine .v (.add64 rfl rfl (by omega)) ?_
 refine .call call10 (S_costK (n := 3#32) (k := 64) (by decide)) rfl .pk rfl (fun x7 hx7 => ?_)
 refine .v (.add64 rfl rfl (by omega)) ?_
 refine .call call10 (S_costK (n := 4#32) (k := 64) (by decide)) rfl .pk rfl (fun x9 hx9 => ?_)
 refine .v (.add64 rfl rfl (by omega)) ?_
 refine .call call10 (S_costK (n := 5#32) (k := 64) (by decide)) rfl .pk rfl (fun x11 hx11 => ?_)
 refine .v (.add64 rfl rfl (by omega)) ?_
 refine .call call10 (S_costK (n := 6#32) (k := 1) (by decide)) rfl .pk rfl (fun x13 hx13 => ?_)
 refine .v (.add64 rfl rfl (by omega)) ?_
 refine .call call10 (S_costK (n := 7#32) (k := 1) (by decide)) rfl .pk rfl (fun x15 hx15 => ?_)
 refine .v (.add64 rfl rfl (by omega)) ?_
 refine .call call10 (S_costK (n := 8#32) (k := 1) (by decide)) rfl .pk rfl (fun x17 hx17 => ?_)
 refine .v (.add64 rfl rfl (by omega)) ?_
 refine .v (.assign rfl) (.nil (TQ.then (.seq (.region (.v (.move rfl) (.v (.eql rfl rfl) (.v (.move rfl) ?_)))))))
 refine' TL.andG (k := 6) (dj := 21) (d := 27) rfl ?_ ?_ ?_
 rotate_left
 ·
  intro g27 hd
  first | replace g27 := of_decide_eq_true g27 | skip
  refine .want rfl rfl (.buildSlice0 underlying31 sizeOf23 rfl (fun b22 => ?_))
  refine .want rfl rfl (.buildSlice (zs := [.int .u32 0, .int .u32 0]) (cs := [_, _]) underlying31 sizeOf23 zeroValue23 rfl rfl rfl (by kernel_rfl) rfl rfl (fun b23 => ?_))
  refine .want rfl rfl (.buildSlice (zs := [.slice none 0 0, .slice none 0 0]) (cs := [_, _]) underlying25 sizeOf31 zeroValue31 rfl rfl rfl (by kernel_rfl) rfl rfl (fun b24 => ?_))
  refine .want rfl rfl (.ent (Ent.trans (Ent.perm (M := [.row b23 _ 23, .row b24 _ 31]) .pk) (Ent.sepR (A := .row b23 _ 23) (B := .row b24 _ 31))) ?_)
  refine .call call12 (S_svc_Draw (b := 1) (t := 1) CostA.rd2) rfl (.cons .here .nil) rfl (fun x25 hx25 => ?_)
  refine .want rfl rfl (.v (.eql32 (b := 9#32) rfl rfl) ?_)
  refine .v (.pick_true rfl rfl) (.nil ?_)
  exact .keepE (Sub.cons rfl (Sub.push rfl (Sub.push rfl (Sub.push rfl (Sub.push rfl (Sub.push rfl (Sub.push rfl (Sub.pushSame hd Sub.rfl')))))))) .en
 ·
  intro g27 hd
  refine .skip rfl rfl rfl (.skip rfl rfl rfl (.skip rfl rfl rfl (.skip rfl rfl rfl (.skip rfl rfl rfl (.v (.pick_false rfl rfl) (.nil ?_))))))
  exact .keepE (Sub.cons rfl (Sub.push rfl (Sub.push rfl (Sub.push rfl (Sub.push rfl (Sub.push rfl (Sub.push rfl (Sub.pushSame hd Sub.rfl')))))))) .en
 first | refine .boolAnd ?_ | skip
 refine .v (.assign rfl) (.nil (TQ.then (.ret ?_)))
 exact .ret results5 (.tmp rfl .nil) () rfl trivial .en

theorem fo_60_0_WLaw : FieldOff prog 60 0 0 := FieldOff.of 46 1 underlying60 rfl sizeOf46 rfl
theorem fo_60_2_WLaw : FieldOff prog 60 2 2 := FieldOff.of 57 1 underlying60 rfl sizeOf57 rfl
theorem fo_76_0_WLaw : FieldOff prog 76 0 0 := FieldOff.of 54 1 underlying76 rfl sizeOf54 rfl
theorem pl_78_WLaw : Places prog 78 [(0, 1), (1, 1)] := ⟨_, underlying78, fun w => by simp [sizeOf3, sizeOf4]⟩
set_option maxHeartbeats 1000000 in
theorem S_wardenlaw19_State_write {s m m2 d r : Nat} {D T : Db} (h : D.same T) {p o : Int} {v : W} : Spec prog 32 [ptr s, i64 p, i64 o, w32 v].toArray [.row s [ptr m, ptr d, ptr r] 60, DbA d m D, RDbA r m2 T] (fun _ : Unit => True) (fun _ => .bool true) (fun _ => [.row s [ptr m, ptr d, ptr r] 60, DbA d m (D.wrS true p o v), RDbA r m2 (T.wrS true p o v)]) := by
 refine Spec.body func32 rfl ntmps32 rfl (fun σ R => ?_)
 refine .seq (.region (.v (.assign rfl) (.nil (TQ.then (.seq (.draw (H := [.row s _ _]) (.q 0 (.q 1 (.q 2 (.q 3 (.q 4 (.q 6 (.q 7 (.e 5 (.e 8 (.q 9 .done)))))))))) (by kernel_rfl) .pk (by kernel_rfl) (by kernel_rfl) (by kernel_rfl) ?_))))))
 refine .v rfl (.move rfl) (.v rfl (.nilCheck rfl) (.v rfl (.field fo_60_0_WLaw rfl) (.v rfl (.load isAgg46 rfl .tk (by rfl)) ?_)))
 refine .v rfl (.move rfl) (.v rfl (.move rfl) (.v rfl (.move rfl) (.eff rfl (fun fu_ li_ hk_ hs_ hl_ => ?_))))
 refine .call call63 (S_wardenlaw19_secure) rfl .pk rfl (fun x16 hx16 => ?_)
 refine .nil (TS.back hk_ hs_ hl_ .pk ?_)
 refine .eff rfl (fun fu_ li_ hk_ hs_ hl_ => ?_)
 refine .call call35 (S_WriteS) rfl .pk rfl (fun x19 hx19 => ?_)
 refine .nil (TS.back hk_ hs_ hl_ .pk ?_)
 refine .v rfl (.assign rfl) (.done (TQ.then (.seq (.region (.v (.move rfl) (.v (.nilCheck rfl) (.v (.field fo_60_2_WLaw rfl) (.v (.load isAgg57 rfl .tk (by rfl)) ?_))))))))
 refine .v (.nilCheck rfl) (.v (.field fo_76_0_WLaw rfl) (.v (.loadC isAgg54 rfl .tk (fun w hw => RDbA.ptr hw)) ?_))
 refine .v (.move rfl) (.v (.build (cs := [_, _]) zeroValue78 pl_78_WLaw rfl rfl) ?_)
 refine .v (.move rfl) (.v (.move rfl) (.call call36 (S_RWriteS) rfl .pk rfl (fun x31 hx31 => ?_)))
 refine .v (.assign rfl) (.nil (TQ.then (.seq (.region (.v (.move rfl) (.call call16 (S_wardenlaw19_num) rfl .pk rfl (fun x33 hx33 => ?_)))))))
 refine .v (.move rfl) (.v (.eql rfl rfl) (.v (.assign rfl) (.nil (TQ.then (.ret ?_)))))
 exact .ret results32 (.tmp rfl .nil) () (by simp [tup, h.wrS.1]) trivial .en

def sevens : Nat → Dig
 | 0 => Dig.new
 | k + 1 => (sevens k).add [7#32]
theorem sevens_n : ∀ {k : Nat}, k ≤ 40 → (sevens k).n = k
 | 0, _ => rfl
 | k + 1, h => by
  have ih := sevens_n (k := k) (by omega)
  show ((sevens k).add [7#32]).n = _
  unfold Dig.add
  rw [if_neg (by rw [ih]; show ¬ (36028797018963968 - (k : Int) < 1); omega), ih]; rfl
theorem sevens_ok : ∀ {k : Nat}, (sevens k).ok
 | 0 => Dig.new_ok
 | _ + 1 => Dig.add_ok sevens_ok
theorem sevens_add {k : Nat} (h : k ≤ 40) : (sevens k).add [7#32] = ⟨(putAll (sevens k).st (sevens k).ws [7#32]).1, (sevens k).n + 1, (putAll (sevens k).st (sevens k).ws [7#32]).2⟩ := by
 have e := sevens_n h
 show Dig.add _ _ = _
 unfold Dig.add
 rw [if_neg (by rw [e]; show ¬ (36028797018963968 - (k : Int) < 1); omega)]; rfl
theorem succ_toNat {i : W} (h : i.toNat < 40) : (i + 1#32).toNat = i.toNat + 1 := by
 rw [BitVec.toNat_add]; show (i.toNat + 1) % 2 ^ 32 = _; omega

theorem fo_33_1_WLaw : FieldOff prog 33 1 1 := FieldOff.of 3 1 underlying33 rfl sizeOf3 rfl
theorem fo_33_4_WLaw : FieldOff prog 33 4 4 := FieldOff.of 23 1 underlying33 rfl sizeOf23 rfl
set_option maxHeartbeats 2000000 in
theorem S_wardenlaw19_State_digests {s m m2 d r : Nat} {D T : Db} (h : D.same T) {A : Assn} (hK0 : Tab A 0) (hK1 : Tab A 1) {k a b c : Int} {v : W} {u : Value} (hu : isCell u = true) : Spec prog 33 [ptr s, .agg #[i64 k, i64 a, i64 b, i64 c, w32 v, u]].toArray [.row s [ptr m, ptr d, ptr r] 60, DbA d m D, RDbA r m2 T, A] (fun x : Db × Db => x.1.same x.2) (fun x => .bool true) (fun x => [.row s [ptr m, ptr d, ptr r] 60, DbA d m x.1, RDbA r m2 x.2, A]) := by
 refine Spec.body func33 rfl ntmps33 rfl (fun σ R => ?_)
 refine .seq (.region (.box (vs := [i64 k, i64 a, i64 b, i64 c, w32 v, u]) rfl (by simp [Value.cells, isCell_cells hu, Array.flatMap]) rfl (fun b3 => ?_)))
 refine .v (.assign rfl) (.nil (TQ.then (.seq (.region (.call call64 (S_sha_NewD) rfl .pk rfl (fun x10 hx10 => ?_))))))
 refine .v (.assign rfl) (.nil (TQ.then (.seq (.seq (.region (.v (.move rfl) (.v (.eqlNil underlying113 rfl rfl) ?_)))))))
 refine .nil (TQ.then ?_)
 first | refine .cond_dec rfl (fun h1 => ?_) (fun h1 => ?_) | refine .cond rfl (fun h1 => ?_) (fun h1 => ?_)
 ·
  cases h1
 ·
  refine .skip (TQ.then (.seq (.region (.call call65 (S_wardenref02_New) rfl .pk rfl (fun x13 hx13 => ?_)))))
  refine .alloc zeroValue116 rfl rfl (fun b6 => ?_)
  refine .storeAll (us := [_, _, _, _, _, _, _, _, _, _]) sizeOf116 rfl rfl rfl rfl .up rfl ?_
  refine .nil (TQ.then (.seq (.seq (.ent (GSl.emp (E := 23) (k := 1)) ?_))))
  refine .region (.v (.assign (v := w32 0#32) rfl) (.nil (TQ.then (.block (.loop (X := {x : W × Value // x.1.toNat ≤ 40}) (s0 := [(0, _), (3, _), (5, _), (6, _)]) (fun x => [(7, w32 x.1.1)]) (fun x => [DigA x10 (sevens x.1.1.toNat), .row b6 [w32 (sevens x.1.1.toNat).st.a, w32 (sevens x.1.1.toNat).st.b, w32 (sevens x.1.1.toNat).st.c, w32 (sevens x.1.1.toNat).st.d, w32 (sevens x.1.1.toNat).st.e, w32 (sevens x.1.1.toNat).st.f, w32 (sevens x.1.1.toNat).st.g, w32 (sevens x.1.1.toNat).st.h, x.1.2, i64 (sevens x.1.1.toNat).n] 116, GSl 23 1 x.1.2 (sevens x.1.1.toNat).ws.length (w32s (sevens x.1.1.toNat).ws), .row s [ptr m, ptr d, ptr r] 60, DbA d m D, RDbA r m2 T, A, .row b3 [i64 k, i64 a, i64 b, i64 c, w32 v, u] 33]) (fun x => 40 - x.1.1.toNat) ⟨(0#32, .slice none 0 0), by decide⟩ .st .pk (fun x => ?_))))))
  refine .seq (.seq ?_)
  obtain ⟨⟨i, v1⟩, hi⟩ := x
  dsimp only at hi ⊢
  have hok := @sevens_ok i.toNat
  have hn := sevens_n hi
  refine .region (.v (.move rfl) (.v (.field fo_33_4_WLaw rfl) (.v (.load isAgg23 rfl .tk (by rfl)) ?_)))
  refine .v (.lss32 rfl rfl) ?_
  refine .v (.move rfl) ?_
  refine' TL.andG (k := 3) (dj := 18) (d := 21) rfl ?_ ?_ ?_
  rotate_left
  ·
   intro g21 hd
   first | replace g21 := of_decide_eq_true g21 | skip
   refine .want rfl rfl (.v (.move rfl) (.want rfl rfl (.v (.lss32 (b := 40#32) rfl rfl) ?_)))
   refine .v (.pick_true rfl rfl) (.nil ?_)
   exact .keep (Sub.cons rfl (Sub.push rfl (Sub.push rfl (Sub.push rfl (Sub.pushSame hd Sub.rfl')))))
  ·
   intro g21 hd
   refine .skip rfl rfl rfl (.skip rfl rfl rfl (.v (.pick_false rfl rfl) (.nil ?_)))
   exact .keep (Sub.cons rfl (Sub.push rfl (Sub.push rfl (Sub.push rfl (Sub.pushSame hd Sub.rfl')))))
  first | refine .boolAnd ?_ | skip
  refine .nil (TQ.then ?_)
  first | refine .cond_dec rfl (fun h2 => ?_) (fun h2 => ?_) | refine .cond rfl (fun h2 => ?_) (fun h2 => ?_)
  ·
   have hlt : i.toNat < 40 := by simp at h2; exact h2.2
   have e1 := sevens_add hi
   refine .skip (TQ.then (.seq (.block (.seq (.region (.v (.move rfl) (.buildSlice (zs := [.int .u32 0]) (cs := [_]) underlying31 sizeOf23 zeroValue23 rfl rfl rfl (by kernel_rfl) rfl rfl (fun b25 => ?_))))))))
   refine .call call66 (S_sha_Digest_Add (AK0 := A) (A := .row b25 [_] 23) (us := [7#32]) (Rd.row (off := 0) (n := 1) (l := [_]) rfl rfl (Nat.le_refl _)) (by decide) hK0) rfl .pk rfl (fun x26 hx26 => ?_)
   refine .nil (TQ.then (.region (.v (.loadAgg (vs := [_, _, _, _, _, _, _, _, _, _]) isAgg116 sizeOf116 rfl .tk (by rfl) (by rfl)) ?_)))
   refine .buildSlice (zs := [.int .u32 0]) (cs := [_]) underlying31 sizeOf23 zeroValue23 rfl rfl rfl (by kernel_rfl) rfl rfl (fun b28 => ?_)
   refine .call call67 (S_wardenref02_Digest_Add (AK1 := A) (st := (sevens i.toNat).st) (n := (sevens i.toNat).n) (ws := (sevens i.toNat).ws) (us := [7#32]) (bs := b28) (c := 1) (by rw [hn]; show 0 ≤ (i.toNat : Int) ∧ (i.toNat : Int) + 1 ≤ 36028797018963968; omega) (by decide) hok.ws hK1) rfl .pk rfl (fun x29 hx29 => ?_)
   refine .shpG (v := x29) .tk (fun hS29 => ?_)
   refine .storeAll (us := [_, _, _, _, _, _, _, _, _, _]) sizeOf116 rfl rfl (by simp only [List.all_cons, List.all_nil, hS29.cell, Bool.and_true]; rfl) rfl .up rfl ?_
   refine .nil (.blk_normal (TQ.then (.region (.v (.move rfl) (.v (.add32 (b := 1#32) rfl rfl) (.v (.assign rfl) (.nil ?_)))))))
   exact .next ⟨(i + 1#32, x29), by dsimp only; rw [succ_toNat hlt]; omega⟩ (by dsimp only; rw [succ_toNat hlt]; omega) .st (by dsimp only; rw [succ_toNat hlt, show sevens (i.toNat + 1) = _ from e1]; rw [e1]; exact .en)
  ·
   skip
   refine .exit (.then_exit (.then_exit (.blk_hit (TQ.then (.seq (.region (.v (.move rfl) (.call call68 (S_sha_Digest_Save (D := sevens i.toNat)) rfl .pk rfl (fun x31 hx31 => ?_)))))))))
   refine .alloc (zs := w32s (List.replicate 26 0)) zeroValue120 (by kernel_rfl) rfl (fun b8 => ?_)
   refine .storeAll (us := w32s _) sizeOf120 rfl rfl w32s_cells (by rw [w32s_length]; exact Dig.save_len hok) .up (by rw [w32s_length]; first | rfl | assumption | simp) ?_
   refine .nil (TQ.then (.seq (.seq (.draw (H := [.row b8 _ _, .row b6 _ _]) (.q 0 (.q 1 (.e 2 (.q 3 .done)))) (by kernel_rfl) .pk (by kernel_rfl) (by kernel_rfl) (by kernel_rfl) ?_))))
   refine .v rfl (.loadAgg (vs := w32s _) isAgg120 sizeOf120 rfl .tk (words_whole (by exact Dig.save_len hok)) (by rw [w32s_length]; exact Dig.save_len hok)) ?_
   refine .v rfl (.loadAgg (vs := [_, _, _, _, _, _, _, _, _, _]) isAgg116 sizeOf116 rfl .tk (by rfl) (by rfl)) ?_
   refine .eff rfl (fun fu_ li_ hk_ hs_ hl_ => ?_)
   refine .call call69 (S_wardenref02_Digest_Save (D := sevens i.toNat) hok) rfl .pk rfl (fun x34 hx34 => ?_)
   refine .nil (TS.back hk_ hs_ hl_ .pk ?_)
   refine .v rfl (.neqAg eqGuardType120 isAgg120 sizeOf120 typeInfo120 rfl rfl (EqOk.words underlying120 underlying23 typeInfo23 isAgg23 sizeOf23 typeInfo120 isAgg120 sizeOf120 (sevens i.toNat).save (sevens i.toNat).save (Dig.save_len hok) (Dig.save_len hok))) ?_
   refine .done (TQ.then ?_)
   first | refine .cond_dec rfl (fun h3 => ?_) (fun h3 => ?_) | refine .cond rfl (fun h3 => ?_) (fun h3 => ?_)
   ·
    exfalso
    simp at h3
   ·
    refine .skip (TQ.then (.seq (.seq (.region (.v (.assign rfl) (.nil (TQ.then (.block (.loop (X := {x : Nat × Db × Db // x.1 ≤ 26 ∧ x.2.1.same x.2.2}) (s0 := [(0, _), (3, _), (8, _)]) (fun y => [(9, i64 y.1.1)]) (fun y => [.row b8 (w32s (sevens i.toNat).save) 120, .row s [ptr m, ptr d, ptr r] 60, DbA d m y.1.2.1, RDbA r m2 y.1.2.2, A, .row b3 [i64 k, i64 a, i64 b, i64 c, w32 v, u] 33]) (fun y => 26 - y.1.1) ⟨(0, D, T), Nat.zero_le _, h⟩ .st .pk (fun y => ?_))))))))))
    refine .seq (.seq ?_)
    obtain ⟨⟨j, D1, T1⟩, hj, hs1⟩ := y
    dsimp only at hj hs1 ⊢
    have hsl := Dig.save_len hok
    refine .region (.v (.move rfl) (.v (.lss rfl rfl) (.nil (TQ.then ?_))))
    first | refine .cond_dec rfl (fun h4 => ?_) (fun h4 => ?_) | refine .cond rfl (fun h4 => ?_) (fun h4 => ?_)
    ·
     refine .skip (TQ.then (.seq (.block (.seq (.draw (H := [.row b3 _ _, .row b8 _ _]) (.q 0 (.q 1 (.q 2 (.q 3 (.q 4 (.q 5 (.q 6 (.q 7 (.e 8 (.q 9 .done)))))))))) (by kernel_rfl) .pk (by kernel_rfl) (by kernel_rfl) (by kernel_rfl) ?_)))))
     refine .v rfl (.move rfl) (.v rfl (.field fo_33_1_WLaw rfl) (.v rfl (.load isAgg3 rfl .tk (by rfl)) ?_))
     refine .v rfl (.move rfl) (.v rfl (.add64 rfl rfl (by omega)) ?_)
     refine .v rfl (.move rfl) (.v rfl (.ixArr1 underlying120 sizeOf23 rfl rfl (by omega)) ?_)
     refine .v rfl (.load isAgg23 rfl .tk (w32s_get (v := wAt (sevens i.toNat).save j) (by rw [show 0 + ((j : Nat) : Int).toNat = j by omega]; exact wAt_get (by rw [hsl]; omega)))) ?_
     refine .eff rfl (fun fu_ li_ hk_ hs_ hl_ => ?_)
     refine .call call32 (S_wardenlaw19_State_write hs1) rfl .pk rfl (fun x48 hx48 => ?_)
     refine .nil (TS.back hk_ hs_ hl_ .pk ?_)
     refine .v rfl (by first | exact Val.not_dec rfl | exact Val.not rfl) ?_
     refine .done (TQ.then ?_)
     first | refine .cond_dec rfl (fun h5 => ?_) (fun h5 => ?_) | refine .cond rfl (fun h5 => ?_) (fun h5 => ?_)
     ·
      exfalso
      simp at h5
     ·
      refine .skip (.blk_normal (TQ.then (.region (.v (.move rfl) (.v (.add64 rfl rfl (by omega)) ?_)))))
      refine .v (.assign rfl) (.nil ?_)
      exact .next ⟨(j + 1, _, _), by dsimp only; omega, hs1.wrS.2⟩ (by dsimp only; omega) .st .en
    ·
     refine .exit (.then_exit (.then_exit (.blk_hit (TQ.then (.seq (.region (.v (.assign rfl) (.nil (TQ.then (.ret ?_))))))))))
     exact .ret results33 (.tmp rfl .nil) (D1, T1) (by first | rfl | simp [tup, *]) hs1 .en

theorem S_LoadD {d m bs wc n : Nat} {D : Db} {ws : List W} (hn : ws.length = n) (hw : n ≤ 1000 ∧ n ≤ wc) : Spec prog 70 [ptr m, .slice (some ⟨bs, 0, none⟩) n wc].toArray [DbA d m D, .row bs (w32s ws) 23] (fun x : Option Nat => x.isSome ↔ Db.loadOk D.mem ws) (fun x => .tuple #[optr x, i64 (if x.isSome then 0 else 110)]) (fun x => [DbA (x.getD d) m (if x.isSome then Db.loadE D.mem ws else D), .row bs (w32s ws) 23]) := by
 subst hn
 refine DbA.open fun bw k hk hD => ?_
 refine ((S_pagedb_Load (ws := ws) (wc := wc) (by have := hD.len; have := hD.pages; omega) hw).use .pk).post fun x _ => ?_
 cases x with
 | none => exact Ent.trans (DbA.fin' (D := D) hD hk .pk) .en
 | some d1 => exact .en
theorem S_RLoadD {d m bs wc n : Nat} {D : Db} {ws : List W} {jw : List Value} (hn : ws.length = n) (hw : n ≤ 1000 ∧ n ≤ wc) : Spec prog 71 [ptr m, .slice (some ⟨bs, 0, none⟩) n wc].toArray [RDbA d m D, .row bs (w32s ws ++ jw) 23] (fun x : Option Nat => x.isSome ↔ Db.loadOk D.mem ws) (fun x => .tuple #[optr x, i64 (if x.isSome then 0 else 110)]) (fun x => [RDbA (x.getD d) m (if x.isSome then Db.loadE D.mem ws else D), .row bs (w32s ws ++ jw) 23]) := by
 subst hn
 refine RDbA.open fun b k cap j hk hD hc => ?_
 refine ((S_wardenref12_Load (ws := ws) (wc := wc) (jw := jw) (by have := hD.len; have := hD.pages; omega) hw).use .pk).post fun x _ => ?_
 cases x with
 | none => exact Ent.trans (RDbA.fin' (D := D) hD hk hc .pk) .en
 | some d1 => exact .en
theorem Db.words_len {D : Db} : D.words.length = 1 + 2 * D.ents.length := by unfold Db.words; rw [List.length_cons, encs_len]; omega
def kOf (a : Int) (n : Nat) : Int := (a.tmod n + n).tmod n
theorem tmodN {a : Int} {n : Nat} (h : 0 < n) : -(n : Int) < a.tmod n ∧ a.tmod n < n := ⟨by have := Int.lt_tmod_of_pos a (show (0 : Int) < n by omega); omega, Int.tmod_lt_of_pos a (by omega)⟩
theorem kOf_ok {a : Int} {n : Nat} (h : 0 < n) : 0 ≤ kOf a n ∧ kOf a n < n := by
 have h1 := @tmodN a n h
 unfold kOf
 rw [Int.tmod_eq_emod_of_nonneg (by omega)]
 exact ⟨Int.emod_nonneg _ (by omega), Int.emod_lt_of_pos _ (by omega)⟩

theorem fo_60_1_WLaw : FieldOff prog 60 1 1 := FieldOff.of 52 1 underlying60 rfl sizeOf52 rfl
set_option maxHeartbeats 2000000 in
theorem S_wardenlaw19_State_loads {s m m2 d r : Nat} {D T : Db} (h : D.same T) {k a b c : Int} {v : W} {u : Value} (hu : isCell u = true) : Spec prog 34 [ptr s, .agg #[i64 k, i64 a, i64 b, i64 c, w32 v, u]].toArray [.row s [ptr m, ptr d, ptr r] 60, DbA d m D, RDbA r m2 T] (fun x : Nat × Nat × Db × Db => x.2.2.1.same x.2.2.2) (fun x => .bool true) (fun x => [.row s [ptr m, ptr x.1, ptr x.2.1] 60, DbA x.1 m x.2.2.1, RDbA x.2.1 m2 x.2.2.2]) := by
 refine Spec.body func34 rfl ntmps34 rfl (fun σ R => ?_)
 have he := congrArg List.length h.ents
 refine .seq (.region (.box (vs := [i64 k, i64 a, i64 b, i64 c, w32 v, u]) rfl (by simp [Value.cells, isCell_cells hu, Array.flatMap]) rfl (fun b3 => ?_)))
 refine .v (.assign rfl) (.nil (TQ.then (.seq (DbA.okT (D := D) .tk (fun hD => ?_)))))
 have hp := hD.pages
 refine .region (.v (.move rfl) (.v (.nilCheck rfl) (.v (.field fo_60_1_WLaw rfl) (.v (.load isAgg52 rfl .tk (by rfl)) ?_))))
 refine .call call43 (S_pagedb_DB_Words) rfl .pk rfl (fun x16 hx16 => ?_)
 refine .v (.assign rfl) (.nil (TQ.then (.seq (.region (.v (.move rfl) (.v (.nilCheck rfl) (.v (.field fo_60_2_WLaw rfl) (.v (.load isAgg57 rfl .tk (by rfl)) ?_))))))))
 refine .call call44 (S_wardenref12_DB_Words) rfl .pk rfl (fun x21 hx21 => ?_)
 refine .v (.assign rfl) (.nil (TQ.then (.seq (.seq (.region (.v (.move rfl) (.v (.len underlying31 rfl) ?_)))))))
 refine .v (.move rfl) (.v (.len underlying31 rfl) ?_)
 refine .v (.neq rfl rfl) (.v (.move rfl) ?_)
 refine' TL.orG (k := 4) (dj := 27) (d := 31) rfl ?_ ?_ ?_
 rotate_left
 ·
  intro g31 hd
  first | replace g31 := of_decide_eq_false g31 | skip
  refine .want rfl rfl (.v (.move rfl) (.want rfl rfl (.v (.len underlying31 rfl) ?_)))
  refine .want rfl rfl (.v (.eql rfl rfl) (.v (.pick_false rfl rfl) (.nil ?_)))
  exact .keep (Sub.cons rfl (Sub.push rfl (Sub.push rfl (Sub.push rfl (Sub.push rfl (Sub.pushSame hd Sub.rfl'))))))
 ·
  intro g31 hd
  refine .skip rfl rfl rfl (.skip rfl rfl rfl (.skip rfl rfl rfl (.v (.pick_true rfl rfl) (.nil ?_))))
  exact .keep (Sub.cons rfl (Sub.push rfl (Sub.push rfl (Sub.push rfl (Sub.push rfl (Sub.pushSame hd Sub.rfl'))))))
 first | refine .boolOr ?_ | skip
 refine .nil (TQ.then ?_)
 first | refine .cond_dec rfl (fun h1 => ?_) (fun h1 => ?_) | refine .cond rfl (fun h1 => ?_) (fun h1 => ?_)
 ·
  exfalso
  simp at h1
  omega
 ·
  refine .skip (TQ.then (.seq ?_))
  obtain ⟨cp, j0, hc0⟩ : ∃ cp j0, x21 = (x21.1, cp, j0) := ⟨x21.2.1, x21.2.2, rfl⟩
  obtain ⟨b21, _, _⟩ := x21
  cases hc0
  dsimp only at hx21 ⊢
  have hk := @kOf_ok a (1 + 2 * D.ents.length) (by omega)
  have ht := @tmodN a (1 + 2 * D.ents.length) (by omega)
  have hw1 : (D.words.set (kOf a (1 + 2 * D.ents.length)).toNat v).length = 1 + 2 * D.ents.length := by rw [List.length_set, Db.words_len]
  have hw2 : (T.words.set (kOf a (1 + 2 * D.ents.length)).toNat v).length = 1 + 2 * T.ents.length := by rw [List.length_set, Db.words_len]
  have hwl := @Db.words_len D
  have hwl2 := @Db.words_len T
  refine .region (.v (.field fo_33_1_WLaw rfl) (.v (.load isAgg3 rfl .tk (by rfl)) ?_))
  refine .v (.move rfl) (.v (.len underlying31 rfl) ?_)
  refine .v (.remT rfl rfl (by omega)) ?_
  refine .v (.move rfl) (.v (.len underlying31 rfl) ?_)
  refine .v (.add64 rfl rfl (by omega)) ?_
  refine .v (.move rfl) (.v (.len underlying31 rfl) ?_)
  refine .v (show Val _ _ _ _ (i64 (kOf a (1 + 2 * D.ents.length))) from Val.remT rfl rfl (by omega)) ?_
  refine .v (.assign rfl) (.nil (TQ.then (.seq (.region (.v (.move rfl) (.v (.move rfl) (.v (.field fo_33_4_WLaw rfl) (.v (.load isAgg23 rfl .tk (by rfl)) ?_))))))))
  refine .v (.ixSlice1 underlying31 sizeOf23 rfl rfl (by omega)) ?_
  refine .storeTo (vs := w32s D.words) (new := w32s (D.words.set (kOf a (1 + 2 * D.ents.length)).toNat v)) sizeOf23 rfl rfl rfl .up (by rw [Nat.zero_add, w32s_set]) (by rw [w32s_length]; omega) ?_
  refine .nil (TQ.then (.seq (.region (.v (.move rfl) (.v (.move rfl) (.v (.field fo_33_4_WLaw rfl) (.v (.load isAgg23 rfl .tk (by rfl)) ?_)))))))
  refine .v (.ixSlice1 underlying31 sizeOf23 rfl rfl (by omega)) ?_
  refine .storeTo (vs := w32s T.words ++ j0) (new := w32s (T.words.set (kOf a (1 + 2 * D.ents.length)).toNat v) ++ j0) sizeOf23 rfl rfl rfl .up (by rw [Nat.zero_add, List.set_append_left _ _ (by rw [w32s_length]; omega), w32s_set]) (by rw [List.length_append, w32s_length]; omega) ?_
  refine .nil (TQ.then (.seq (.region (.v (.move rfl) (.v (.nilCheck rfl) (.v (.field fo_60_0_WLaw rfl) (.v (.load isAgg46 rfl .tk (by rfl)) ?_)))))))
  refine .v (.move rfl) (.call call70 (S_LoadD hw1 (by omega)) rfl .pk rfl (fun x59 hx59 => ?_))
  refine .v (.move rfl) (.v (.extract rfl rfl) (.v (.extract rfl rfl) (.v (.assign rfl) (.v (.assign rfl) (.nil (TQ.then (.seq ?_)))))))
  rw [show T.words.set (kOf a (1 + 2 * D.ents.length)).toNat v = D.words.set (kOf a (1 + 2 * D.ents.length)).toNat v by rw [h.words]] at hw2 ⊢
  refine .region (.v (.move rfl) (.v (.nilCheck rfl) (.v (.field fo_60_2_WLaw rfl) (.v (.load isAgg57 rfl .tk (by rfl)) ?_))))
  refine .v (.nilCheck rfl) (.v (.field fo_76_0_WLaw rfl) (.v (.loadC isAgg54 rfl .tk (fun w hw => RDbA.ptr hw)) ?_))
  refine .v (.move rfl) (.call call71 (S_RLoadD hw2 (by omega)) rfl .pk rfl (fun x71 hx71 => ?_))
  refine .v (.move rfl) (.v (.extract rfl rfl) (.v (.extract rfl rfl) (.v (.assign rfl) (.v (.assign rfl) (.nil (TQ.then (.seq (.seq ?_))))))))
  have hop := h.opt hx59 hx71
  refine .region (.v (.move rfl) (.call call16 (S_wardenlaw19_num) rfl .pk rfl (fun x75 hx75 => ?_)))
  refine .v (.move rfl) (.v (.neq rfl rfl) (.v (.move rfl) ?_))
  refine' TL.orG (k := 6) (dj := 78) (d := 84) rfl ?_ ?_ ?_
  rotate_left
  ·
   intro g84 hd
   first | replace g84 := of_decide_eq_false g84 | skip
   refine .want rfl rfl (.v (.move rfl) (.want rfl rfl (.v (.eqlNil underlying52 rfl rfl) ?_)))
   refine .want rfl rfl (.v (.move rfl) (.want rfl rfl (.v (.eqlNil underlying57 rfl rfl) ?_)))
   refine .want rfl rfl (.v (.neqBool underlying4 rfl rfl) ?_)
   refine .v (.pick_false rfl rfl) (.nil ?_)
   exact .keep (Sub.cons rfl (Sub.push rfl (Sub.push rfl (Sub.push rfl (Sub.push rfl (Sub.push rfl (Sub.push rfl (Sub.pushSame hd Sub.rfl'))))))))
  ·
   intro g84 hd
   refine .skip rfl rfl rfl (.skip rfl rfl rfl (.skip rfl rfl rfl (.skip rfl rfl rfl (.skip rfl rfl rfl (.v (.pick_true rfl rfl) (.nil ?_))))))
   exact .keep (Sub.cons rfl (Sub.push rfl (Sub.push rfl (Sub.push rfl (Sub.push rfl (Sub.push rfl (Sub.push rfl (Sub.pushSame hd Sub.rfl'))))))))
  first | refine .boolOr ?_ | skip
  refine .nil (TQ.then ?_)
  first | refine .cond_dec rfl (fun h2 => ?_) (fun h2 => ?_) | refine .cond rfl (fun h2 => ?_) (fun h2 => ?_)
  ·
   exfalso
   cases x59 <;> cases x71 <;> simp at hop h2
  ·
   refine .skip (TQ.then (.seq (.seq (.region (.v (.move rfl) (.v (.neqNil underlying52 rfl rfl) ?_))))))
   refine .nil (TQ.then ?_)
   first | refine .cond_dec rfl (fun h3 => ?_) (fun h3 => ?_) | refine .cond rfl (fun h3 => ?_) (fun h3 => ?_)
   ·
    obtain ⟨d1, rfl⟩ : ∃ d1, x59 = some d1 := by cases x59 <;> simp at h3 ⊢
    obtain ⟨r1, rfl⟩ : ∃ r1, x71 = some r1 := by cases x71 <;> simp at hop ⊢
    refine .seq (.region (.v (.move rfl) (.v (.move rfl) (.v (.nilCheck rfl) (.v (.field fo_60_1_WLaw rfl) (.store sizeOf52 rfl rfl rfl .up (by rfl) ?_))))))
    refine .nil (TQ.then (.region (.v (.move rfl) (.v (.move rfl) (.v (.nilCheck rfl) (.v (.field fo_60_2_WLaw rfl) (.store sizeOf57 rfl rfl rfl .up (by rfl) ?_)))))))
    refine .nil (TQ.then (.seq (.region (.v (.assign rfl) (.nil (TQ.then (.ret ?_)))))))
    exact .ret results34 (.tmp rfl .nil) (d1, r1, Db.loadE D.mem (D.words.set (kOf a (1 + 2 * D.ents.length)).toNat v), Db.loadE T.mem (D.words.set (kOf a (1 + 2 * D.ents.length)).toNat v)) (by first | rfl | simp [tup, *]) h.loadE .en
   ·
    obtain rfl : x59 = none := by cases x59 <;> simp at h3 ⊢
    obtain rfl : x71 = none := by cases x71 <;> simp at hop ⊢
    refine .skip (TQ.then (.seq (.region (.v (.assign rfl) (.nil (TQ.then (.ret ?_)))))))
    exact .ret results34 (.tmp rfl .nil) (d, r, D, T) (by first | rfl | simp [tup, *]) h .en

theorem fo_39_0_WLaw : FieldOff prog 39 0 0 := FieldOff.of 4 1 underlying39 rfl sizeOf4 rfl
theorem fo_39_1_WLaw : FieldOff prog 39 1 1 := FieldOff.of 3 1 underlying39 rfl sizeOf3 rfl
theorem fo_41_3_WLaw : FieldOff prog 41 3 21 := FieldOff.of 39 2 underlying41 rfl sizeOf39 rfl
theorem fo_41_4_WLaw : FieldOff prog 41 4 23 := FieldOff.of 3 1 underlying41 rfl sizeOf3 rfl
theorem fo_41_5_WLaw : FieldOff prog 41 5 24 := FieldOff.of 31 1 underlying41 rfl sizeOf31 rfl
set_option maxHeartbeats 2000000 in
theorem S_wardenlaw19_State_lay {s m m2 d r : Nat} {D T : Db} (h : D.same T) {th : Int} {n : W} {F : File} {sec : Bool} {pg off : Int} {u : Value} {ws : List W} {A : Assn} (hW : Rd A u (w32s ws)) (hu : isCell u = true) : Spec prog 7 [ptr s, .agg #[i64 th, w32 n, w32 F.r0, w32 F.r1, w32 F.r2, w32 F.r3, w32 F.r4, w32 F.r5, w32 F.r6, w32 F.r7, w32 F.r8, w32 F.r9, w32 F.r10, w32 F.r11, w32 F.r12, w32 F.r13, w32 F.r14, w32 F.pc, .bool F.z, .bool F.n, .bool F.l, .bool sec, i64 pg, i64 off, u]].toArray [.row s [ptr m, ptr d, ptr r] 60, DbA d m D, RDbA r m2 T, A] (fun x : Db × Db => x.1.same x.2) (fun x => .tuple #[]) (fun x => [.row s [ptr m, ptr d, ptr r] 60, DbA d m x.1, RDbA r m2 x.2, A]) := by
 refine Spec.body func7 rfl ntmps7 rfl (fun σ R => ?_)
 refine .seq (.region (.box (vs := [i64 th, w32 n, w32 F.r0, w32 F.r1, w32 F.r2, w32 F.r3, w32 F.r4, w32 F.r5, w32 F.r6, w32 F.r7, w32 F.r8, w32 F.r9, w32 F.r10, w32 F.r11, w32 F.r12, w32 F.r13, w32 F.r14, w32 F.pc, .bool F.z, .bool F.n, .bool F.l, .bool sec, i64 pg, i64 off, u]) rfl (by simp [Value.cells, isCell_cells hu, Array.flatMap]) rfl (fun b3 => ?_)))
 refine .nil (TQ.then (.seq (.shpR hW .tk (fun hS => ?_))))
 rw [w32s_length] at hS
 refine .region (.v (.assign rfl) (.nil (TQ.then (.block (.loop (X := {x : Nat × Db × Db // x.1 ≤ ws.length ∧ x.1 ≤ 1024 ∧ x.2.1.same x.2.2}) (s0 := [(0, _), (3, _)]) (fun x => [(4, i64 x.1.1)]) (fun x => [.row s [ptr m, ptr d, ptr r] 60, DbA d m x.1.2.1, RDbA r m2 x.1.2.2, A, .row b3 [i64 th, w32 n, w32 F.r0, w32 F.r1, w32 F.r2, w32 F.r3, w32 F.r4, w32 F.r5, w32 F.r6, w32 F.r7, w32 F.r8, w32 F.r9, w32 F.r10, w32 F.r11, w32 F.r12, w32 F.r13, w32 F.r14, w32 F.pc, .bool F.z, .bool F.n, .bool F.l, .bool sec, i64 pg, i64 off, u] 41]) (fun x => 1024 - x.1.1) ⟨(0, D, T), Nat.zero_le _, Nat.zero_le _, h⟩ .st .pk (fun x => ?_))))))
 refine .seq (.seq ?_)
 obtain ⟨⟨i, D1, T1⟩, hi, hi2, hs1⟩ := x
 dsimp only at hi hi2 hs1 ⊢
 refine .region (.v (.move rfl) (.v (.field fo_41_5_WLaw rfl) (.v (.load isAgg31 rfl .tk (by rfl)) ?_)))
 refine .v (.lenS underlying31 rfl hS) ?_
 refine .v (.lss rfl rfl) (.v (.move rfl) ?_)
 refine' TL.andG (k := 3) (dj := 10) (d := 13) rfl ?_ ?_ ?_
 rotate_left
 ·
  intro g13 hd
  first | replace g13 := of_decide_eq_true g13 | skip
  refine .want rfl rfl (.v (.move rfl) (.want rfl rfl (.v (.lss rfl rfl) (.v (.pick_true rfl rfl) (.nil ?_)))))
  exact .keep (Sub.cons rfl (Sub.push rfl (Sub.push rfl (Sub.push rfl (Sub.pushSame hd Sub.rfl')))))
 ·
  intro g13 hd
  refine .skip rfl rfl rfl (.skip rfl rfl rfl (.v (.pick_false rfl rfl) (.nil ?_)))
  exact .keep (Sub.cons rfl (Sub.push rfl (Sub.push rfl (Sub.push rfl (Sub.pushSame hd Sub.rfl')))))
 first | refine .boolAnd ?_ | skip
 refine .nil (TQ.then ?_)
 first | refine .cond_dec rfl (fun h1 => ?_) (fun h1 => ?_) | refine .cond rfl (fun h1 => ?_) (fun h1 => ?_)
 ·
  refine .skip (TQ.then (.seq (.block (.seq (.region (.v (.field fo_41_4_WLaw rfl) (.v (.load isAgg3 rfl .tk (by rfl)) ?_)))))))
  refine .v (.geq rfl rfl) (.v (.move rfl) ?_)
  refine' TL.andG (k := 4) (dj := 19) (d := 23) rfl ?_ ?_ ?_
  rotate_left
  ·
   intro g23 hd
   first | replace g23 := of_decide_eq_true g23 | skip
   refine .want rfl rfl (.v (.field fo_41_4_WLaw rfl) (.want rfl rfl (.v (.load isAgg3 rfl .tk (by rfl)) ?_)))
   refine .want rfl rfl (.v (.lss rfl rfl) (.v (.pick_true rfl rfl) (.nil ?_)))
   exact .keep (Sub.cons rfl (Sub.push rfl (Sub.push rfl (Sub.push rfl (Sub.push rfl (Sub.pushSame hd Sub.rfl'))))))
  ·
   intro g23 hd
   refine .skip rfl rfl rfl (.skip rfl rfl rfl (.skip rfl rfl rfl (.v (.pick_false rfl rfl) (.nil ?_))))
   exact .keep (Sub.cons rfl (Sub.push rfl (Sub.push rfl (Sub.push rfl (Sub.push rfl (Sub.pushSame hd Sub.rfl'))))))
  first | refine .boolAnd ?_ | skip
  refine .nil (TQ.then ?_)
  first | refine .cond_dec rfl (fun h2 => ?_) (fun h2 => ?_) | refine .cond rfl (fun h2 => ?_) (fun h2 => ?_)
  ·
   refine .seq (.draw (H := [.row s _ _, .row b3 _ _, A]) (.q 0 (.q 1 (.q 2 (.q 3 (.q 4 (.q 5 (.q 6 (.q 7 (.q 8 (.q 9 (.q 10 (.q 11 (.q 12 (.q 13 (.q 14 (.e 15 .done)))))))))))))))) (by kernel_rfl) .pk (by kernel_rfl) (by kernel_rfl) (by kernel_rfl) ?_)
   refine .v rfl (.move rfl) (.v rfl (.nilCheck rfl) (.v rfl (.field fo_60_0_WLaw rfl) (.v rfl (.load isAgg46 rfl .tk (by rfl)) ?_)))
   refine .v rfl (.field fo_41_3_WLaw rfl) (.v rfl (.loadAgg (vs := [_, _]) isAgg39 sizeOf39 rfl .tk (by rfl) (by rfl)) ?_)
   refine .v rfl (.field fo_41_4_WLaw rfl) (.v rfl (.load isAgg3 rfl .tk (by rfl)) ?_)
   refine .v rfl (.move rfl) (.v rfl (.add64 rfl rfl (by omega)) ?_)
   refine .v rfl (.field fo_41_5_WLaw rfl) (.v rfl (.load isAgg31 rfl .tk (by rfl)) ?_)
   refine .v rfl (.move rfl) (.v rfl (.ixS underlying31 sizeOf23 hS rfl rfl (by omega)) ?_)
   refine .v rfl (.loadE isAgg23 rfl .tk hW (w32s_get (wAt_get (l := ws) (i := i) (by omega)))) ?_
   refine .eff rfl (fun fu_ li_ hk_ hs_ hl_ => ?_)
   refine .call call35 (S_WriteS) rfl .pk rfl (fun x39 hx39 => ?_)
   refine .nil (TS.back hk_ hs_ hl_ .pk ?_)
   refine .done (TQ.then (.drawK (H := [.ex fun TT : Db => RDbA r m2 TT, .row s _ _, .row b3 _ _, A]) (.q 0 (.q 1 (.q 2 (.q 3 (.q 4 (.q 5 (.q 6 (.q 7 (.q 8 (.q 9 (.q 10 (.q 11 (.q 12 (.q 13 (.q 14 (.q 15 (.q 16 (.q 17 (.q 18 (.q 19 (.q 20 (.q 21 (.q 22 (.e 23 .done)))))))))))))))))))))))) (by kernel_rfl) (Knows.pickEx (A := fun DD : Db => RDbA r m2 DD) .pk) (by kernel_rfl) (by kernel_rfl) (by kernel_rfl) ?_))
   refine .v rfl (.move rfl) (.v rfl (.nilCheck rfl) (.v rfl (.field fo_60_2_WLaw rfl) (.v rfl (.load isAgg57 rfl .tk (by rfl)) ?_)))
   refine .v rfl (.nilCheck rfl) (.v rfl (.field fo_76_0_WLaw rfl) (.v rfl (.loadC isAgg54 rfl .tk (fun w hw => RDbA.ptrX hw)) ?_))
   refine .v rfl (.field fo_41_3_WLaw rfl) (.v rfl (.field fo_39_0_WLaw rfl) (.v rfl (.load isAgg4 rfl .tk (by rfl)) ?_))
   refine .v rfl (.field fo_41_3_WLaw rfl) (.v rfl (.field fo_39_1_WLaw rfl) (.v rfl (.load isAgg3 rfl .tk (by rfl)) ?_))
   refine .v rfl (.build (cs := [_, _]) zeroValue78 pl_78_WLaw rfl rfl) ?_
   refine .v rfl (.field fo_41_4_WLaw rfl) (.v rfl (.load isAgg3 rfl .tk (by rfl)) ?_)
   refine .v rfl (.move rfl) (.v rfl (.add64 rfl rfl (by omega)) ?_)
   refine .v rfl (.field fo_41_5_WLaw rfl) (.v rfl (.load isAgg31 rfl .tk (by rfl)) ?_)
   refine .v rfl (.move rfl) (.v rfl (.ixS underlying31 sizeOf23 hS rfl rfl (by omega)) ?_)
   refine .v rfl (.loadE isAgg23 rfl .tk hW (w32s_get (wAt_get (l := ws) (i := i) (by omega)))) ?_
   refine .eff rfl (fun fu_ li_ hk_ hs_ hl_ => ?_)
   refine .call call36 (S_RWriteS) rfl .pk rfl (fun x63 hx63 => ?_)
   refine .nil (TS.backK hk_ hs_ hl_ (Knows.pickEx (A := fun DD : Db => RDbA r m2 DD) .pk) ?_)
   refine .done (.blk_normal (TQ.then (.region (.v (.move rfl) (.v (.add64 rfl rfl (by omega)) ?_)))))
   refine .v (.assign rfl) (.nil ?_)
   exact .next ⟨(i + 1, _, _), by dsimp only; omega, by dsimp only; omega, hs1.wrS.2⟩ (by dsimp only; omega) .st .en
  ·
   refine .skip (.blk_normal (TQ.then (.region (.v (.move rfl) (.v (.add64 rfl rfl (by omega)) ?_)))))
   refine .v (.assign rfl) (.nil ?_)
   exact .next ⟨(i + 1, D1, T1), by dsimp only; omega, by dsimp only; omega, hs1⟩ (by dsimp only; omega) .st .en
 ·
  refine .exit (.then_exit (.then_exit (.blk_hit ?_)))
  exact .ret0 (by first | exact .inl rfl | exact .inr rfl) rfl (D1, T1) rfl hs1 .en

theorem fo_33_0_WLaw : FieldOff prog 33 0 0 := FieldOff.of 3 1 underlying33 rfl sizeOf3 rfl
theorem fo_33_2_WLaw : FieldOff prog 33 2 2 := FieldOff.of 3 1 underlying33 rfl sizeOf3 rfl
theorem fo_33_3_WLaw : FieldOff prog 33 3 3 := FieldOff.of 3 1 underlying33 rfl sizeOf3 rfl
set_option maxHeartbeats 2000000 in
theorem S_wardenlaw19_State_act {s m m2 d r : Nat} {D T : Db} (h : D.same T) {A : Assn} (hK0 : Tab A 0) (hK1 : Tab A 1) {k a b c : Int} {v : W} {u : Value} (hu : isCell u = true) : Spec prog 6 [ptr s, .agg #[i64 k, i64 a, i64 b, i64 c, w32 v, u]].toArray [.row s [ptr m, ptr d, ptr r] 60, DbA d m D, RDbA r m2 T, A] (fun x : Nat × Nat × Db × Db => x.2.2.1.same x.2.2.2) (fun x => .bool true) (fun x => [.row s [ptr m, ptr x.1, ptr x.2.1] 60, DbA x.1 m x.2.2.1, RDbA x.2.1 m2 x.2.2.2, A]) := by
 refine Spec.body func6 rfl ntmps6 rfl (fun σ R => ?_)
 refine .seq (.region (.box (vs := [i64 k, i64 a, i64 b, i64 c, w32 v, u]) rfl (by simp [Value.cells, isCell_cells hu, Array.flatMap]) rfl (fun b3 => ?_)))
 refine .v (.assign rfl) (.nil (TQ.then (.seq (.seq (.region (.v (.field fo_33_0_WLaw rfl) (.v (.load isAgg3 rfl .tk (by rfl)) ?_)))))))
 refine .nil (TQ.then (.block (.seq (.region (.v (.eql rfl rfl) (.v (.assign rfl) (.nil (TQ.then ?_))))))))
 first | refine .cond_dec rfl (fun h1 => ?_) (fun h1 => ?_) | refine .cond rfl (fun h1 => ?_) (fun h1 => ?_)
 ·
  refine .seq (.draw (H := [.row s _ _, .row b3 _ _]) (.q 0 (.q 1 (.q 2 (.q 3 (.q 4 (.q 5 (.q 6 (.q 7 (.q 10 (.q 11 (.q 12 (.q 13 (.q 14 (.q 15 (.q 16 (.q 17 (.e 8 (.e 9 (.e 18 (.q 19 (.q 20 .done))))))))))))))))))))) (by kernel_rfl) .pk (by kernel_rfl) (by kernel_rfl) (by kernel_rfl) ?_)
  refine .v rfl (.move rfl) (.v rfl (.nilCheck rfl) (.v rfl (.field fo_60_1_WLaw rfl) (.v rfl (.load isAgg52 rfl .tk (by rfl)) ?_)))
  refine .v rfl (.field fo_33_1_WLaw rfl) (.v rfl (.load isAgg3 rfl .tk (by rfl)) ?_)
  refine .v rfl (.field fo_33_2_WLaw rfl) (.v rfl (.load isAgg3 rfl .tk (by rfl)) ?_)
  refine .v rfl (.move rfl) (.v rfl (.nilCheck rfl) (.v rfl (.field fo_60_2_WLaw rfl) (.v rfl (.load isAgg57 rfl .tk (by rfl)) ?_)))
  refine .v rfl (.field fo_33_1_WLaw rfl) (.v rfl (.load isAgg3 rfl .tk (by rfl)) ?_)
  refine .v rfl (.field fo_33_2_WLaw rfl) (.v rfl (.load isAgg3 rfl .tk (by rfl)) ?_)
  refine .eff rfl (fun fu_ li_ hk_ hs_ hl_ => ?_)
  refine .call call20 (S_pagedb_DB_TakeSpace) rfl .pk rfl (fun x17 hx17 => ?_)
  refine .nil (TS.back hk_ hs_ hl_ .pk ?_)
  refine .eff rfl (fun fu_ li_ hk_ hs_ hl_ => ?_)
  refine .call call16 (S_wardenlaw19_num) rfl .pk rfl (fun x18 hx18 => ?_)
  refine .nil (TS.back hk_ hs_ hl_ .pk ?_)
  refine .eff rfl (fun fu_ li_ hk_ hs_ hl_ => ?_)
  refine .call call21 (S_wardenref12_DB_TakeSpace) rfl .pk rfl (fun x27 hx27 => ?_)
  refine .nil (TS.back hk_ hs_ hl_ .pk ?_)
  refine .v rfl (.eql rfl rfl) (.v rfl (.assign rfl) (.done (TQ.then (.ret (.blk_ret (.then_ret ?_))))))
  exact .ret results6 (.tmp rfl .nil) (d, r, (D.takeSpace a b).2, (T.takeSpace a b).2) (by simp only [tup, (Db.same.takeSpace (D := D) (T := T) h).1, decide_true]) (h.takeSpace).2 .en
 ·
  refine .seq (.region (.v (.eql rfl rfl) (.v (.assign rfl) (.nil (TQ.then ?_)))))
  first | refine .cond_dec rfl (fun h2 => ?_) (fun h2 => ?_) | refine .cond rfl (fun h2 => ?_) (fun h2 => ?_)
  ·
   refine .seq (.draw (H := [.row s _ _, .row b3 _ _]) (.q 0 (.q 1 (.q 2 (.q 3 (.q 4 (.q 5 (.q 6 (.q 7 (.q 8 (.q 9 (.q 12 (.q 13 (.q 14 (.q 15 (.q 16 (.q 17 (.q 18 (.q 19 (.q 20 (.q 21 (.e 10 (.e 11 (.e 22 (.q 23 (.q 24 .done))))))))))))))))))))))))) (by kernel_rfl) .pk (by kernel_rfl) (by kernel_rfl) (by kernel_rfl) ?_)
   refine .v rfl (.move rfl) (.v rfl (.nilCheck rfl) (.v rfl (.field fo_60_1_WLaw rfl) (.v rfl (.load isAgg52 rfl .tk (by rfl)) ?_)))
   refine .v rfl (.field fo_33_1_WLaw rfl) (.v rfl (.load isAgg3 rfl .tk (by rfl)) ?_)
   refine .v rfl (.field fo_33_2_WLaw rfl) (.v rfl (.load isAgg3 rfl .tk (by rfl)) ?_)
   refine .v rfl (.field fo_33_3_WLaw rfl) (.v rfl (.load isAgg3 rfl .tk (by rfl)) ?_)
   refine .v rfl (.move rfl) (.v rfl (.nilCheck rfl) (.v rfl (.field fo_60_2_WLaw rfl) (.v rfl (.load isAgg57 rfl .tk (by rfl)) ?_)))
   refine .v rfl (.field fo_33_1_WLaw rfl) (.v rfl (.load isAgg3 rfl .tk (by rfl)) ?_)
   refine .v rfl (.field fo_33_2_WLaw rfl) (.v rfl (.load isAgg3 rfl .tk (by rfl)) ?_)
   refine .v rfl (.field fo_33_3_WLaw rfl) (.v rfl (.load isAgg3 rfl .tk (by rfl)) ?_)
   refine .eff rfl (fun fu_ li_ hk_ hs_ hl_ => ?_)
   refine .call call22 (S_pagedb_DB_Take) rfl .pk rfl (fun x41 hx41 => ?_)
   refine .nil (TS.back hk_ hs_ hl_ .pk ?_)
   refine .eff rfl (fun fu_ li_ hk_ hs_ hl_ => ?_)
   refine .call call16 (S_wardenlaw19_num) rfl .pk rfl (fun x42 hx42 => ?_)
   refine .nil (TS.back hk_ hs_ hl_ .pk ?_)
   refine .eff rfl (fun fu_ li_ hk_ hs_ hl_ => ?_)
   refine .call call23 (S_wardenref12_DB_Take) rfl .pk rfl (fun x53 hx53 => ?_)
   refine .nil (TS.back hk_ hs_ hl_ .pk ?_)
   refine .v rfl (.eql rfl rfl) (.v rfl (.assign rfl) (.done (TQ.then (.ret (.blk_ret (.then_ret ?_))))))
   exact .ret results6 (.tmp rfl .nil) (d, r, (D.take a b c).2, (T.take a b c).2) (by simp only [tup, (Db.same.take (D := D) (T := T) h).1, decide_true]) (h.take).2 .en
  ·
   refine .seq (.region (.v (.eql rfl rfl) (.v (.assign rfl) (.nil (TQ.then ?_)))))
   first | refine .cond_dec rfl (fun h3 => ?_) (fun h3 => ?_) | refine .cond rfl (fun h3 => ?_) (fun h3 => ?_)
   ·
    refine .seq (.draw (H := [.row s _ _, .row b3 _ _]) (.q 0 (.q 1 (.q 2 (.q 3 (.q 4 (.q 5 (.q 6 (.q 7 (.q 10 (.q 11 (.q 12 (.q 13 (.q 14 (.q 15 (.q 16 (.q 17 (.e 8 (.e 9 (.e 18 (.q 19 (.q 20 .done))))))))))))))))))))) (by kernel_rfl) .pk (by kernel_rfl) (by kernel_rfl) (by kernel_rfl) ?_)
    refine .v rfl (.move rfl) (.v rfl (.nilCheck rfl) (.v rfl (.field fo_60_1_WLaw rfl) (.v rfl (.load isAgg52 rfl .tk (by rfl)) ?_)))
    refine .v rfl (.field fo_33_1_WLaw rfl) (.v rfl (.load isAgg3 rfl .tk (by rfl)) ?_)
    refine .v rfl (.field fo_33_2_WLaw rfl) (.v rfl (.load isAgg3 rfl .tk (by rfl)) ?_)
    refine .v rfl (.move rfl) (.v rfl (.nilCheck rfl) (.v rfl (.field fo_60_2_WLaw rfl) (.v rfl (.load isAgg57 rfl .tk (by rfl)) ?_)))
    refine .v rfl (.field fo_33_1_WLaw rfl) (.v rfl (.load isAgg3 rfl .tk (by rfl)) ?_)
    refine .v rfl (.field fo_33_2_WLaw rfl) (.v rfl (.load isAgg3 rfl .tk (by rfl)) ?_)
    refine .eff rfl (fun fu_ li_ hk_ hs_ hl_ => ?_)
    refine .call call24 (S_pagedb_DB_Turn) rfl .pk rfl (fun x65 hx65 => ?_)
    refine .nil (TS.back hk_ hs_ hl_ .pk ?_)
    refine .eff rfl (fun fu_ li_ hk_ hs_ hl_ => ?_)
    refine .call call16 (S_wardenlaw19_num) rfl .pk rfl (fun x66 hx66 => ?_)
    refine .nil (TS.back hk_ hs_ hl_ .pk ?_)
    refine .eff rfl (fun fu_ li_ hk_ hs_ hl_ => ?_)
    refine .call call25 (S_wardenref12_DB_Turn) rfl .pk rfl (fun x75 hx75 => ?_)
    refine .nil (TS.back hk_ hs_ hl_ .pk ?_)
    refine .v rfl (.eql rfl rfl) (.v rfl (.assign rfl) (.done (TQ.then (.ret (.blk_ret (.then_ret ?_))))))
    exact .ret results6 (.tmp rfl .nil) (d, r, (D.turn a b).2, (T.turn a b).2) (by simp only [tup, (Db.same.turnS (D := D) (T := T) h).1, decide_true]) (h.turnS).2 .en
   ·
    refine .seq (.region (.v (.eql rfl rfl) (.v (.assign rfl) (.nil (TQ.then ?_)))))
    first | refine .cond_dec rfl (fun h4 => ?_) (fun h4 => ?_) | refine .cond rfl (fun h4 => ?_) (fun h4 => ?_)
    ·
     refine .seq (.draw (H := [.row s _ _, .row b3 _ _]) (.q 0 (.q 1 (.q 2 (.q 3 (.q 4 (.q 5 (.q 8 (.q 9 (.q 10 (.q 11 (.q 12 (.q 13 (.e 6 (.e 7 (.e 14 (.q 15 (.q 16 .done))))))))))))))))) (by kernel_rfl) .pk (by kernel_rfl) (by kernel_rfl) (by kernel_rfl) ?_)
     refine .v rfl (.move rfl) (.v rfl (.nilCheck rfl) (.v rfl (.field fo_60_1_WLaw rfl) (.v rfl (.load isAgg52 rfl .tk (by rfl)) ?_)))
     refine .v rfl (.field fo_33_1_WLaw rfl) (.v rfl (.load isAgg3 rfl .tk (by rfl)) ?_)
     refine .v rfl (.move rfl) (.v rfl (.nilCheck rfl) (.v rfl (.field fo_60_2_WLaw rfl) (.v rfl (.load isAgg57 rfl .tk (by rfl)) ?_)))
     refine .v rfl (.field fo_33_1_WLaw rfl) (.v rfl (.load isAgg3 rfl .tk (by rfl)) ?_)
     refine .eff rfl (fun fu_ li_ hk_ hs_ hl_ => ?_)
     refine .call call26 (S_pagedb_DB_Give) rfl .pk rfl (fun x85 hx85 => ?_)
     refine .nil (TS.back hk_ hs_ hl_ .pk ?_)
     refine .eff rfl (fun fu_ li_ hk_ hs_ hl_ => ?_)
     refine .call call16 (S_wardenlaw19_num) rfl .pk rfl (fun x86 hx86 => ?_)
     refine .nil (TS.back hk_ hs_ hl_ .pk ?_)
     refine .eff rfl (fun fu_ li_ hk_ hs_ hl_ => ?_)
     refine .call call27 (S_wardenref12_DB_Give) rfl .pk rfl (fun x93 hx93 => ?_)
     refine .nil (TS.back hk_ hs_ hl_ .pk ?_)
     refine .v rfl (.eql rfl rfl) (.v rfl (.assign rfl) (.done (TQ.then (.ret (.blk_ret (.then_ret ?_))))))
     exact .ret results6 (.tmp rfl .nil) (d, r, (D.give a).2, (T.give a).2) (by simp only [tup, (Db.same.give (D := D) (T := T) h).1, decide_true]) (h.give).2 .en
    ·
     refine .seq (.region (.v (.eql rfl rfl) (.v (.assign rfl) (.nil (TQ.then ?_)))))
     first | refine .cond_dec rfl (fun h5 => ?_) (fun h5 => ?_) | refine .cond rfl (fun h5 => ?_) (fun h5 => ?_)
     ·
      refine .seq (.draw (H := [.row s _ _, .row b3 _ _]) (.q 0 (.q 1 (.q 2 (.q 3 (.q 4 (.q 5 (.q 6 (.q 7 (.q 10 (.q 11 (.q 12 (.q 13 (.q 14 (.q 15 (.q 16 (.q 17 (.e 8 (.e 9 (.e 18 (.q 19 (.q 20 .done))))))))))))))))))))) (by kernel_rfl) .pk (by kernel_rfl) (by kernel_rfl) (by kernel_rfl) ?_)
      refine .v rfl (.move rfl) (.v rfl (.nilCheck rfl) (.v rfl (.field fo_60_1_WLaw rfl) (.v rfl (.load isAgg52 rfl .tk (by rfl)) ?_)))
      refine .v rfl (.field fo_33_1_WLaw rfl) (.v rfl (.load isAgg3 rfl .tk (by rfl)) ?_)
      refine .v rfl (.field fo_33_2_WLaw rfl) (.v rfl (.load isAgg3 rfl .tk (by rfl)) ?_)
      refine .v rfl (.move rfl) (.v rfl (.nilCheck rfl) (.v rfl (.field fo_60_2_WLaw rfl) (.v rfl (.load isAgg57 rfl .tk (by rfl)) ?_)))
      refine .v rfl (.field fo_33_1_WLaw rfl) (.v rfl (.load isAgg3 rfl .tk (by rfl)) ?_)
      refine .v rfl (.field fo_33_2_WLaw rfl) (.v rfl (.load isAgg3 rfl .tk (by rfl)) ?_)
      refine .eff rfl (fun fu_ li_ hk_ hs_ hl_ => ?_)
      refine .call call28 (S_pagedb_DB_SetState) rfl .pk rfl (fun x105 hx105 => ?_)
      refine .nil (TS.back hk_ hs_ hl_ .pk ?_)
      refine .eff rfl (fun fu_ li_ hk_ hs_ hl_ => ?_)
      refine .call call16 (S_wardenlaw19_num) rfl .pk rfl (fun x106 hx106 => ?_)
      refine .nil (TS.back hk_ hs_ hl_ .pk ?_)
      refine .eff rfl (fun fu_ li_ hk_ hs_ hl_ => ?_)
      refine .call call29 (S_wardenref12_DB_SetState) rfl .pk rfl (fun x115 hx115 => ?_)
      refine .nil (TS.back hk_ hs_ hl_ .pk ?_)
      refine .v rfl (.eql rfl rfl) (.v rfl (.assign rfl) (.done (TQ.then (.ret (.blk_ret (.then_ret ?_))))))
      exact .ret results6 (.tmp rfl .nil) (d, r, (D.setState a b).2, (T.setState a b).2) (by simp only [tup, (Db.same.setState (D := D) (T := T) h).1, decide_true]) (h.setState).2 .en
     ·
      refine .seq (.region (.v (.eql rfl rfl) (.v (.assign rfl) (.nil (TQ.then ?_)))))
      first | refine .cond_dec rfl (fun h6 => ?_) (fun h6 => ?_) | refine .cond rfl (fun h6 => ?_) (fun h6 => ?_)
      ·
       refine .seq (.draw (H := [.row s _ _, .row b3 _ _]) (.q 0 (.q 1 (.q 2 (.q 3 (.q 4 (.q 5 (.q 6 (.q 7 (.q 8 (.q 9 (.q 12 (.q 13 (.q 14 (.q 15 (.q 16 (.q 17 (.q 18 (.q 19 (.q 20 (.q 21 (.e 10 (.e 11 (.e 22 (.q 23 (.q 24 .done))))))))))))))))))))))))) (by kernel_rfl) .pk (by kernel_rfl) (by kernel_rfl) (by kernel_rfl) ?_)
       refine .v rfl (.move rfl) (.v rfl (.nilCheck rfl) (.v rfl (.field fo_60_1_WLaw rfl) (.v rfl (.load isAgg52 rfl .tk (by rfl)) ?_)))
       refine .v rfl (.field fo_33_1_WLaw rfl) (.v rfl (.load isAgg3 rfl .tk (by rfl)) ?_)
       refine .v rfl (.field fo_33_2_WLaw rfl) (.v rfl (.load isAgg3 rfl .tk (by rfl)) ?_)
       refine .v rfl (.remT (b := 2) rfl rfl (by decide)) ?_
       refine .v rfl (.neq rfl rfl) (.v rfl (.move rfl) (.v rfl (.nilCheck rfl) (.v rfl (.field fo_60_2_WLaw rfl) (.v rfl (.load isAgg57 rfl .tk (by rfl)) ?_))))
       refine .v rfl (.field fo_33_1_WLaw rfl) (.v rfl (.load isAgg3 rfl .tk (by rfl)) ?_)
       refine .v rfl (.field fo_33_2_WLaw rfl) (.v rfl (.load isAgg3 rfl .tk (by rfl)) ?_)
       refine .v rfl (.remT (b := 2) rfl rfl (by decide)) ?_
       refine .v rfl (.neq rfl rfl) (.eff rfl (fun fu_ li_ hk_ hs_ hl_ => ?_))
       refine .call call30 (S_pagedb_DB_SetEntered) rfl .pk rfl (fun x129 hx129 => ?_)
       refine .nil (TS.back hk_ hs_ hl_ .pk ?_)
       refine .eff rfl (fun fu_ li_ hk_ hs_ hl_ => ?_)
       refine .call call16 (S_wardenlaw19_num) rfl .pk rfl (fun x130 hx130 => ?_)
       refine .nil (TS.back hk_ hs_ hl_ .pk ?_)
       refine .eff rfl (fun fu_ li_ hk_ hs_ hl_ => ?_)
       refine .call call31 (S_wardenref12_DB_SetEntered) rfl .pk rfl (fun x141 hx141 => ?_)
       refine .nil (TS.back hk_ hs_ hl_ .pk ?_)
       refine .v rfl (.eql rfl rfl) (.v rfl (.assign rfl) (.done (TQ.then (.ret (.blk_ret (.then_ret ?_))))))
       exact .ret results6 (.tmp rfl .nil) (d, r, (D.setEntered a (decide (b.tmod 2 ≠ 0))).2, (T.setEntered a (decide (b.tmod 2 ≠ 0))).2) (by simp only [tup, (Db.same.setEntered (D := D) (T := T) h).1, decide_true]) (h.setEntered).2 .en
      ·
       refine .seq (.region (.v (.eql rfl rfl) (.v (.assign rfl) (.nil (TQ.then ?_)))))
       first | refine .cond_dec rfl (fun h7 => ?_) (fun h7 => ?_) | refine .cond rfl (fun h7 => ?_) (fun h7 => ?_)
       ·
        refine .seq (.region (.v (.move rfl) (.v (.field fo_33_1_WLaw rfl) (.v (.load isAgg3 rfl .tk (by rfl)) ?_))))
        refine .v (.field fo_33_2_WLaw rfl) (.v (.load isAgg3 rfl .tk (by rfl)) ?_)
        refine .v (.field fo_33_4_WLaw rfl) (.v (.load isAgg23 rfl .tk (by rfl)) ?_)
        refine .call call32 (S_wardenlaw19_State_write h) rfl .pk rfl (fun x152 hx152 => ?_)
        refine .v (.assign rfl) (.nil (TQ.then (.ret (.blk_ret (.then_ret ?_)))))
        exact .ret results6 (.tmp rfl .nil) (d, r, D.wrS true a b v, T.wrS true a b v) (by first | rfl | simp [tup, *]) h.wrS.2 .en
       ·
        refine .seq (.region (.v (.eql rfl rfl) (.v (.assign rfl) (.nil (TQ.then ?_)))))
        first | refine .cond_dec rfl (fun h8 => ?_) (fun h8 => ?_) | refine .cond rfl (fun h8 => ?_) (fun h8 => ?_)
        ·
         refine .seq (.region (.v (.move rfl) (.v (.loadAgg (vs := [_, _, _, _, _, _]) isAgg33 sizeOf33 rfl .tk (by rfl) (by rfl)) ?_)))
         refine .call call33 (S_wardenlaw19_State_digests h hK0 hK1 hu) rfl .pk rfl (fun x157 hx157 => ?_)
         refine .v (.assign rfl) (.nil (TQ.then (.ret (.blk_ret (.then_ret ?_)))))
         exact .ret results6 (.tmp rfl .nil) (d, r, x157.1, x157.2) (by first | rfl | simp [tup, *]) hx157 .en
        ·
         refine .seq (.region (.v (.eql rfl rfl) (.v (.assign rfl) (.nil (TQ.then ?_)))))
         first | refine .cond_dec rfl (fun h9 => ?_) (fun h9 => ?_) | refine .cond rfl (fun h9 => ?_) (fun h9 => ?_)
         ·
          refine .seq (.region (.v (.move rfl) (.v (.loadAgg (vs := [_, _, _, _, _, _]) isAgg33 sizeOf33 rfl .tk (by rfl) (by rfl)) ?_)))
          refine .call call34 (S_wardenlaw19_State_loads h hu) rfl .pk rfl (fun x162 hx162 => ?_)
          refine .v (.assign rfl) (.nil (TQ.then (.ret (.blk_ret (.then_ret ?_)))))
          exact .ret results6 (.tmp rfl .nil) x162 (by first | rfl | simp [tup, *]) hx162 .en
         ·
          refine .skip (.blk_normal (TQ.then (.seq (.region (.v (.assign rfl) (.nil (TQ.then (.ret ?_))))))))
          exact .ret results6 (.tmp rfl .nil) (d, r, D, T) (by first | rfl | simp [tup, *]) h .en

theorem S_PeekS {d m : Nat} {D : Db} {sec : Bool} {pg off : Int} : Spec prog 47 [ptr m, .agg #[.bool sec, i64 pg], i64 off].toArray [DbA d m D] (fun _ : Unit => True) (fun _ => w32 (D.mem.peek sec pg off)) (fun _ => [DbA d m D]) := DbA.lift S_mem_Memory_Peek fun _ => rfl
theorem S_SecureS {d m : Nat} {D : Db} : Spec prog 46 [ptr m].toArray [DbA d m D] (fun _ : Unit => True) (fun _ => i64 D.mem.sec.length) (fun _ => [DbA d m D]) := DbA.lift S_mem_Memory_Secure fun _ => rfl
theorem S_InsecureS {d m : Nat} {D : Db} : Spec prog 45 [ptr m].toArray [DbA d m D] (fun _ : Unit => True) (fun _ => i64 D.mem.ins.length) (fun _ => [DbA d m D]) := DbA.lift S_mem_Memory_Insecure fun _ => rfl
theorem S_RPeekS {d m : Nat} {D : Db} {sec : Bool} {pg off : Int} : Spec prog 48 [ptr m, .agg #[.bool sec, i64 pg], i64 off].toArray [RDbA d m D] (fun _ : Unit => True) (fun _ => w32 (D.mem.peek sec pg off)) (fun _ => [RDbA d m D]) := RDbA.lift S_wardenref07_Memory_Peek fun _ => rfl

theorem RDbA.most {d m : Nat} {D : Db} {w : World} (h : Holds (RDbA d m D) w) : D.mem.ins.length ≤ 64 := by
 obtain ⟨F, x, _, _, _, h1, _⟩ := h
 obtain ⟨_, _, _, h2, _⟩ := h1
 obtain ⟨_, _, _, h3, _⟩ := h2
 obtain ⟨_, _, h4, _⟩ := h3
 obtain ⟨y, _, _, hf, _⟩ := h4
 exact hf.1.most.2
theorem RDbA.mostT {P : Program} {n : Nat} {σ : Env} {R : Assn} {Q : Exit → Act → World → Prop} {s : Slots} {c : Code} {L L' : List Assn} {d m : Nat} {D : Db} (ht : Take L (RDbA d m D) L') (h : D.mem.ins.length ≤ 64 → TC P n σ R c Q s L) : TC P n σ R c Q s L := fun a w ha hw => h (RDbA.most (hw.holds ht)) a w ha hw

set_option maxHeartbeats 4000000 in
theorem S_wardenlaw19_State_lies {s m m2 d r : Nat} {D T : Db} (h : D.same T) : Spec prog 9 [ptr s].toArray [.row s [ptr m, ptr d, ptr r] 60, DbA d m D, RDbA r m2 T] (fun _ : Unit => True) (fun _ => .bool true) (fun _ => [.row s [ptr m, ptr d, ptr r] 60, DbA d m D, RDbA r m2 T]) := by
 refine Spec.body func9 rfl ntmps9 rfl (fun σ R => ?_)
 have he := congrArg List.length h.ents
 refine .seq (.region (.v (.assign rfl) (.nil (TQ.then (.seq (DbA.okT (D := D) .tk (fun hD => ?_)))))))
 refine RDbA.mostT (D := T) .tk (fun hI => ?_)
 have hp := hD.pages
 have hsl := hD.len
 rw [← h.ins] at hI
 refine .region (.v (.move rfl) (.v (.nilCheck rfl) (.v (.field fo_60_1_WLaw rfl) (.v (.load isAgg52 rfl .tk (by rfl)) ?_))))
 refine .call call43 (S_pagedb_DB_Words) rfl .pk rfl (fun x14 hx14 => ?_)
 refine .v (.assign rfl) (.nil (TQ.then (.seq (.region (.v (.move rfl) (.v (.nilCheck rfl) (.v (.field fo_60_2_WLaw rfl) (.v (.load isAgg57 rfl .tk (by rfl)) ?_))))))))
 refine .call call44 (S_wardenref12_DB_Words) rfl .pk rfl (fun x19 hx19 => ?_)
 refine .v (.assign rfl) (.nil (TQ.then (.seq (.seq ?_))))
 obtain ⟨b20, cp, j0⟩ := x19
 dsimp only at hx19 ⊢
 have hwl := @Db.words_len D
 have hww := h.words
 refine .region (.v (.move rfl) (.v (.len underlying31 rfl) ?_))
 refine .v (.move rfl) (.v (.len underlying31 rfl) ?_)
 refine .v (.neq rfl rfl) (.nil (TQ.then ?_))
 first | refine .cond_dec rfl (fun h1 => ?_) (fun h1 => ?_) | refine .cond rfl (fun h1 => ?_) (fun h1 => ?_)
 ·
  exfalso
  simp at h1
  omega
 ·
  refine .skip (TQ.then (.seq (.seq (.region (.v (.assign rfl) (.nil (TQ.then (.block (.loop (X := {x : Nat // x ≤ 1 + 2 * D.ents.length}) (s0 := [(0, _), (3, _), (4, _)]) (fun x => [(5, i64 x.1)]) (fun x => [.row s [ptr m, ptr d, ptr r] 60, DbA d m D, RDbA r m2 T, .row x14 (w32s D.words) 23, .row b20 (w32s T.words ++ j0) 23]) (fun x => 1 + 2 * D.ents.length - x.1) ⟨0, Nat.zero_le _⟩ .st .pk (fun x => ?_))))))))))
  refine .seq (.seq ?_)
  obtain ⟨i, hi⟩ := x
  dsimp only
  refine .region (.v (.move rfl) (.v (.move rfl) (.v (.len underlying31 rfl) ?_)))
  refine .v (.lss rfl rfl) (.nil (TQ.then ?_))
  first | refine .cond_dec rfl (fun h2 => ?_) (fun h2 => ?_) | refine .cond rfl (fun h2 => ?_) (fun h2 => ?_)
  ·
   refine .skip (TQ.then (.seq (.block (.seq (.draw (H := [.row x14 _ _, .row b20 _ _]) (.q 0 (.q 1 (.q 2 (.q 3 (.q 4 (.q 5 (.q 6 (.q 7 (.q 8 .done))))))))) (by kernel_rfl) .pk (by kernel_rfl) (by kernel_rfl) (by kernel_rfl) ?_)))))
   refine .v rfl (.move rfl) (.v rfl (.move rfl) (.v rfl (.ixSlice1 underlying31 sizeOf23 rfl rfl (by omega)) ?_))
   refine .v rfl (.load isAgg23 rfl .tk (w32s_get (v := wAt D.words i) (by rw [show 0 + ((i : Nat) : Int).toNat = i by omega]; exact wAt_get (by omega)))) ?_
   refine .v rfl (.move rfl) (.v rfl (.move rfl) (.v rfl (.ixSlice1 underlying31 sizeOf23 rfl rfl (by omega)) ?_))
   refine .v rfl (.load (v := w32 (wAt D.words i)) isAgg23 rfl .tk (by rw [← hww, show 0 + ((i : Nat) : Int).toNat = i by omega, List.getElem?_append_left (by rw [w32s_length]; omega)]; exact w32s_get (wAt_get (by omega)))) ?_
   refine .v rfl (.neq32 rfl rfl) ?_
   refine .done (TQ.then ?_)
   first | refine .cond_dec rfl (fun h3 => ?_) (fun h3 => ?_) | refine .cond rfl (fun h3 => ?_) (fun h3 => ?_)
   ·
    exfalso
    simp at h3
   ·
    refine .skip (.blk_normal (TQ.then (.region (.v (.move rfl) (.v (.add64 rfl rfl (by omega)) ?_)))))
    refine .v (.assign rfl) (.nil ?_)
    exact .next ⟨i + 1, by omega⟩ (by dsimp only; omega) .st .en
  ·
   refine .exit (.then_exit (.then_exit (.blk_hit (TQ.then (.seq (.seq (.region (.v (.assign rfl) (.nil (TQ.then (.block (.loop (X := {x : Nat // x ≤ 2}) (s0 := [(0, _)]) (fun y => [(6, i64 y.1)]) (fun y => [.row s [ptr m, ptr d, ptr r] 60, DbA d m D, RDbA r m2 T]) (fun y => 2 - y.1) ⟨0, Nat.zero_le _⟩ .st .pk (fun y => ?_)))))))))))))
   refine .seq (.seq ?_)
   obtain ⟨k, hk⟩ := y
   dsimp only
   refine .region (.v (.move rfl) (.v (.lss rfl rfl) (.nil (TQ.then ?_))))
   first | refine .cond_dec rfl (fun h3 => ?_) (fun h3 => ?_) | refine .cond rfl (fun h3 => ?_) (fun h3 => ?_)
   ·
    refine .skip (TQ.then (.seq (.block (.seq (.region (.v (.move rfl) (.v (.nilCheck rfl) (.v (.field fo_60_0_WLaw rfl) (.v (.load isAgg46 rfl .tk (by rfl)) ?_)))))))))
    refine .call call45 (S_InsecureS) rfl .pk rfl (fun x48 hx48 => ?_)
    refine .v (.assign rfl) (.nil (TQ.then (.seq (.seq (.region (.v (.move rfl) (.v (.eql rfl rfl) (.nil (TQ.then ?_)))))))))
    first | refine .cond_dec rfl (fun h4 => ?_) (fun h4 => ?_) | refine .cond rfl (fun h4 => ?_) (fun h4 => ?_)
    ·
     refine .region (.v (.move rfl) (.v (.nilCheck rfl) (.v (.field fo_60_0_WLaw rfl) (.v (.load isAgg46 rfl .tk (by rfl)) ?_))))
     refine .call call46 (S_SecureS) rfl .pk rfl (fun x55 hx55 => ?_)
     refine .v (.assign rfl) (.nil (TQ.then (.seq (.region (.v (.assign rfl) (.nil (TQ.then (.block (.loop (X := {x : Nat // x ≤ D.mem.sec.length}) (s0 := [(0, _), (6, _), (7, _)]) (fun z => [(8, i64 z.1)]) (fun z => [.row s [ptr m, ptr d, ptr r] 60, DbA d m D, RDbA r m2 T]) (fun z => D.mem.sec.length - z.1) ⟨0, Nat.zero_le _⟩ .st .pk (fun z => ?_))))))))))
     refine .seq (.seq ?_)
     obtain ⟨p, hp⟩ := z
     dsimp only
     refine .region (.v (.move rfl) (.v (.move rfl) (.v (.lss rfl rfl) (.nil (TQ.then ?_)))))
     first | refine .cond_dec rfl (fun h5 => ?_) (fun h5 => ?_) | refine .cond rfl (fun h5 => ?_) (fun h5 => ?_)
     ·
      refine .skip (TQ.then (.seq (.block (.seq (.region (.v (.assign rfl) (.nil (TQ.then (.block (.loop (X := {x : Nat // x ≤ 1024}) (s0 := [(0, _), (6, _), (7, _), (8, _)]) (fun o => [(9, i64 o.1)]) (fun o => [.row s [ptr m, ptr d, ptr r] 60, DbA d m D, RDbA r m2 T]) (fun o => 1024 - o.1) ⟨0, Nat.zero_le _⟩ .st .pk (fun o => ?_)))))))))))
      refine .seq (.seq ?_)
      obtain ⟨o, ho⟩ := o
      dsimp only
      refine .region (.v (.move rfl) (.v (.lss rfl rfl) (.nil (TQ.then ?_))))
      first | refine .cond_dec rfl (fun h6 => ?_) (fun h6 => ?_) | refine .cond rfl (fun h6 => ?_) (fun h6 => ?_)
      ·
       skip
       refine .skip (TQ.then (.seq (.block (.seq (.draw (H := [.row s _ _, RDbA r m2 T]) (.q 0 (.q 1 (.q 2 (.q 3 (.q 4 (.q 5 (.q 6 (.q 7 (.q 8 (.q 10 (.q 11 (.q 12 (.q 13 (.q 14 (.q 15 (.q 16 (.q 17 (.q 18 (.q 19 (.q 20 (.q 21 (.e 9 (.e 22 (.q 23 .done)))))))))))))))))))))))) (by kernel_rfl) .pk (by kernel_rfl) (by kernel_rfl) (by kernel_rfl) ?_)))))
       refine .v rfl (.move rfl) (.v rfl (.nilCheck rfl) (.v rfl (.field fo_60_0_WLaw rfl) (.v rfl (.load isAgg46 rfl .tk (by rfl)) ?_)))
       refine .v rfl (.move rfl) (.v rfl (.eql rfl rfl) (.v rfl (.move rfl) (.v rfl (.build (cs := [_, _]) zeroValue39 pl_39_WLaw rfl rfl) ?_)))
       refine .v rfl (.move rfl) (.v rfl (.move rfl) (.v rfl (.nilCheck rfl) (.v rfl (.field fo_60_2_WLaw rfl) (.v rfl (.load isAgg57 rfl .tk (by rfl)) ?_))))
       refine .v rfl (.nilCheck rfl) (.v rfl (.field fo_76_0_WLaw rfl) (.v rfl (.loadC isAgg54 rfl .tk (fun w hw => RDbA.ptr hw)) ?_))
       refine .v rfl (.move rfl) (.v rfl (.eql rfl rfl) (.v rfl (.move rfl) (.v rfl (.build (cs := [_, _]) zeroValue78 pl_78_WLaw rfl rfl) ?_)))
       refine .v rfl (.move rfl) (.eff rfl (fun fu_ li_ hk_ hs_ hl_ => ?_))
       refine .call call47 (S_PeekS) rfl .pk rfl (fun x74 hx74 => ?_)
       refine .nil (TS.back hk_ hs_ hl_ .pk ?_)
       refine .eff rfl (fun fu_ li_ hk_ hs_ hl_ => ?_)
       refine .call call48 (S_RPeekS) rfl .pk rfl (fun x87 hx87 => ?_)
       refine .nil (TS.back hk_ hs_ hl_ .pk ?_)
       refine .v rfl (.neq32 rfl rfl) ?_
       refine .done (TQ.then ?_)
       first | refine .cond_dec rfl (fun h7 => ?_) (fun h7 => ?_) | refine .cond rfl (fun h7 => ?_) (fun h7 => ?_)
       ·
        exfalso
        simp [h.peek] at h7
       ·
        refine .skip (.blk_normal (TQ.then (.region (.v (.move rfl) (.v (.add64 rfl rfl (by omega)) ?_)))))
        refine .v (.assign rfl) (.nil ?_)
        exact .next ⟨o + 1, by omega⟩ (by dsimp only; omega) .st .en
      ·
       refine .exit (.then_exit (.then_exit (.blk_hit (.blk_normal (TQ.then (.region (.v (.move rfl) (.v (.add64 rfl rfl (by omega)) ?_))))))))
       refine .v (.assign rfl) (.nil ?_)
       exact .next ⟨p + 1, by omega⟩ (by dsimp only; omega) .st .en
     ·
      refine .exit (.then_exit (.then_exit (.blk_hit (.blk_normal (TQ.then (.region (.v (.move rfl) (.v (.add64 rfl rfl (by omega)) ?_))))))))
      refine .v (.assign rfl) (.nil ?_)
      exact .next ⟨k + 1, by omega⟩ (by dsimp only; omega) .st .en
    ·
     refine .skip (TQ.then (.seq (.region (.v (.assign rfl) (.nil (TQ.then (.block (.loop (X := {x : Nat // x ≤ D.mem.ins.length}) (s0 := [(0, _), (6, _), (7, _)]) (fun z => [(8, i64 z.1)]) (fun z => [.row s [ptr m, ptr d, ptr r] 60, DbA d m D, RDbA r m2 T]) (fun z => D.mem.ins.length - z.1) ⟨0, Nat.zero_le _⟩ .st .pk (fun z => ?_)))))))))
     refine .seq (.seq ?_)
     obtain ⟨p, hp⟩ := z
     dsimp only
     refine .region (.v (.move rfl) (.v (.move rfl) (.v (.lss rfl rfl) (.nil (TQ.then ?_)))))
     first | refine .cond_dec rfl (fun h5 => ?_) (fun h5 => ?_) | refine .cond rfl (fun h5 => ?_) (fun h5 => ?_)
     ·
      refine .skip (TQ.then (.seq (.block (.seq (.region (.v (.assign rfl) (.nil (TQ.then (.block (.loop (X := {x : Nat // x ≤ 1024}) (s0 := [(0, _), (6, _), (7, _), (8, _)]) (fun o => [(9, i64 o.1)]) (fun o => [.row s [ptr m, ptr d, ptr r] 60, DbA d m D, RDbA r m2 T]) (fun o => 1024 - o.1) ⟨0, Nat.zero_le _⟩ .st .pk (fun o => ?_)))))))))))
      refine .seq (.seq ?_)
      obtain ⟨o, ho⟩ := o
      dsimp only
      refine .region (.v (.move rfl) (.v (.lss rfl rfl) (.nil (TQ.then ?_))))
      first | refine .cond_dec rfl (fun h6 => ?_) (fun h6 => ?_) | refine .cond rfl (fun h6 => ?_) (fun h6 => ?_)
      ·
       skip
       refine .skip (TQ.then (.seq (.block (.seq (.draw (H := [.row s _ _, RDbA r m2 T]) (.q 0 (.q 1 (.q 2 (.q 3 (.q 4 (.q 5 (.q 6 (.q 7 (.q 8 (.q 10 (.q 11 (.q 12 (.q 13 (.q 14 (.q 15 (.q 16 (.q 17 (.q 18 (.q 19 (.q 20 (.q 21 (.e 9 (.e 22 (.q 23 .done)))))))))))))))))))))))) (by kernel_rfl) .pk (by kernel_rfl) (by kernel_rfl) (by kernel_rfl) ?_)))))
       refine .v rfl (.move rfl) (.v rfl (.nilCheck rfl) (.v rfl (.field fo_60_0_WLaw rfl) (.v rfl (.load isAgg46 rfl .tk (by rfl)) ?_)))
       refine .v rfl (.move rfl) (.v rfl (.eql rfl rfl) (.v rfl (.move rfl) (.v rfl (.build (cs := [_, _]) zeroValue39 pl_39_WLaw rfl rfl) ?_)))
       refine .v rfl (.move rfl) (.v rfl (.move rfl) (.v rfl (.nilCheck rfl) (.v rfl (.field fo_60_2_WLaw rfl) (.v rfl (.load isAgg57 rfl .tk (by rfl)) ?_))))
       refine .v rfl (.nilCheck rfl) (.v rfl (.field fo_76_0_WLaw rfl) (.v rfl (.loadC isAgg54 rfl .tk (fun w hw => RDbA.ptr hw)) ?_))
       refine .v rfl (.move rfl) (.v rfl (.eql rfl rfl) (.v rfl (.move rfl) (.v rfl (.build (cs := [_, _]) zeroValue78 pl_78_WLaw rfl rfl) ?_)))
       refine .v rfl (.move rfl) (.eff rfl (fun fu_ li_ hk_ hs_ hl_ => ?_))
       refine .call call47 (S_PeekS) rfl .pk rfl (fun x74 hx74 => ?_)
       refine .nil (TS.back hk_ hs_ hl_ .pk ?_)
       refine .eff rfl (fun fu_ li_ hk_ hs_ hl_ => ?_)
       refine .call call48 (S_RPeekS) rfl .pk rfl (fun x87 hx87 => ?_)
       refine .nil (TS.back hk_ hs_ hl_ .pk ?_)
       refine .v rfl (.neq32 rfl rfl) ?_
       refine .done (TQ.then ?_)
       first | refine .cond_dec rfl (fun h7 => ?_) (fun h7 => ?_) | refine .cond rfl (fun h7 => ?_) (fun h7 => ?_)
       ·
        exfalso
        simp [h.peek] at h7
       ·
        refine .skip (.blk_normal (TQ.then (.region (.v (.move rfl) (.v (.add64 rfl rfl (by omega)) ?_)))))
        refine .v (.assign rfl) (.nil ?_)
        exact .next ⟨o + 1, by omega⟩ (by dsimp only; omega) .st .en
      ·
       refine .exit (.then_exit (.then_exit (.blk_hit (.blk_normal (TQ.then (.region (.v (.move rfl) (.v (.add64 rfl rfl (by omega)) ?_))))))))
       refine .v (.assign rfl) (.nil ?_)
       exact .next ⟨p + 1, by omega⟩ (by dsimp only; omega) .st .en
     ·
      refine .exit (.then_exit (.then_exit (.blk_hit (.blk_normal (TQ.then (.region (.v (.move rfl) (.v (.add64 rfl rfl (by omega)) ?_))))))))
      refine .v (.assign rfl) (.nil ?_)
      exact .next ⟨k + 1, by omega⟩ (by dsimp only; omega) .st .en
   ·
    refine .exit (.then_exit (.then_exit (.blk_hit (TQ.then (.seq (.region (.v (.assign rfl) (.nil (TQ.then (.ret ?_))))))))))
    exact .ret results9 (.tmp rfl .nil) () (by first | rfl | simp [tup, *]) trivial .en
end Go.Wd
