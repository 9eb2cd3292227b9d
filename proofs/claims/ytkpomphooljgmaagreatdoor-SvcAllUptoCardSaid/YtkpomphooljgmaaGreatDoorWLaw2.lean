/- PROVED HERE: contracts of functions of the program, walked: each returns what the plain model says, for all items that its precondition names. No condition beyond each theorem's own. -/
import Derived.Test.YtkpomphooljgmaaGreatDoorProg
import Derived.Test.YtkpomphooljgmaaGreatDoorModel
import Derived.Test.YtkpomphooljgmaaGreatDoorPk
import Derived.Test.YtkpomphooljgmaaGreatDoorBase6
import Derived.Test.YtkpomphooljgmaaGreatDoorMLaw
import Derived.Test.YtkpomphooljgmaaGreatDoorWSvc2
import Derived.Test.YtkpomphooljgmaaGreatDoorWRef19
import Derived.Test.YtkpomphooljgmaaGreatDoorWLaw
namespace Go.Wd
open Go Go.Proofs Go.Proofs.Tryz
set_option maxHeartbeats 1000000 in
theorem S_wardenlaw19_copied {v : Value} {us : List Value} {S : List (List W)} {A : Assn} (hR : Rd2 A v us S) (hb : ∀ s ∈ S, s.length ≤ 2000000) (hn : S.length ≤ 2000000) : Spec prog 37 [v].toArray [A] (fun x : Value × List Value => x.2.length = S.length) (fun x => x.1) (fun x => [Cop 31 x.1 x.2 (S.map mkd), A]) := by
 refine Spec.body func37 rfl ntmps37 rfl (fun σ R => ?_)
 have hl := hR.len
 refine .seq (.region (.v (.assign rfl) (.nil (TQ.then (.seq (.shpR hR.out .tk (fun hS => ?_)))))))
 refine .ent (GSl.emp (E := 31) (k := 1)) ?_
 refine .ent (show Ent _ (Wins 23 [] [] :: _) from Ent.empR) ?_
 refine .region (.v (.assign rfl) (.nil (TQ.then (.seq (.seq (.region (.v (.assign rfl) (.nil (TQ.then (.block (.loop (X := {x : Nat × Value × List Value // x.1 ≤ us.length ∧ isCell x.2.1 = true ∧ x.2.2.length = x.1}) (s0 := [(0, _)]) (fun x => [(3, x.1.2.1), (4, i64 x.1.1)]) (fun x => [A, GSl 31 1 x.1.2.1 x.1.1 x.1.2.2, Wins 23 x.1.2.2 ((S.take x.1.1).map mkd)]) (fun x => us.length - x.1.1) ⟨(0, .slice none 0 0, []), Nat.zero_le _, rfl, rfl⟩ .st .pk (fun x => ?_))))))))))))
 refine .seq (.seq ?_)
 obtain ⟨⟨i, v3, ws⟩, hi, hv3, hws⟩ := x
 dsimp only at hi hv3 hws ⊢
 refine .region (.v (.move rfl) (.v (.move rfl) (.v (.lenS underlying25 rfl hS) ?_)))
 refine .v (.lss rfl rfl) (.nil (TQ.then ?_))
 first | refine .cond_dec rfl (fun h1 => ?_) (fun h1 => ?_) | refine .cond rfl (fun h1 => ?_) (fun h1 => ?_)
 ·
  obtain ⟨u, st, hus⟩ := hR.at (i : Int)
  obtain ⟨hu1, hs1, hr1⟩ := hus (by omega)
  rw [show ((i : Nat) : Int).toNat = i by omega] at hu1 hs1
  have hbs := hb st (List.mem_of_getElem? hs1)
  refine .ent (GSl.emp (E := 23) (k := 1)) ?_
  refine .skip (TQ.then (.seq (.block (.seq (.region (.v (.assign rfl) (.nil (TQ.then (.seq (.region (.v (.move rfl) (.v (.move rfl) (.v (.move rfl) (.v (.ixS underlying25 sizeOf31 hS rfl rfl (by omega)) ?_))))))))))))))
  refine .v (.loadE isAgg31 rfl .tk hR.out (by rw [show ((i : Nat) : Int).toNat = i by omega]; exact hu1)) ?_
  refine .appendR (v := .slice none 0 0) (A := A) (us := w32s st) hr1 underlying31 typeInfo23 rfl rfl rfl rfl rfl rfl .tk .tk w32s_cells (by simp only [t23]; rw [w32s_length]; omega) rfl (fun v18 hv18 => ?_)
  rw [show GSl 23 1 v18 (0 + (w32s st).length) ([] ++ w32s st) = GSl 23 1 v18 (st.length + 0) (w32s (st ++ marks 0)) from by rw [Nat.zero_add, List.nil_append, w32s_length]; show _ = GSl 23 1 v18 st.length (w32s (st ++ [])); rw [List.append_nil]]
  refine .v (.assign rfl) (.nil (TQ.then (.seq (.seq (.region (.v (.assign rfl) (.nil (TQ.then (.block (.loop (X := {y : Nat × Value // y.1 ≤ 120 ∧ isCell y.2 = true}) (s0 := [(0, _), (3, _), (4, _)]) (fun y => [(5, y.1.2), (6, i64 y.1.1)]) (fun y => [GSl 23 1 y.1.2 (st.length + y.1.1) (w32s (st ++ marks y.1.1)), A, GSl 31 1 v3 i ws, Wins 23 ws ((S.take i).map mkd)]) (fun y => 120 - y.1.1) ⟨(0, v18), Nat.zero_le _, hv18⟩ .st .pk (fun y => ?_)))))))))))
  refine .seq (.seq ?_)
  obtain ⟨⟨j, v5⟩, hj, hv5⟩ := y
  dsimp only at hj hv5 ⊢
  refine .region (.v (.move rfl) (.v (.lss rfl rfl) (.nil (TQ.then ?_))))
  first | refine .cond_dec rfl (fun h2 => ?_) (fun h2 => ?_) | refine .cond rfl (fun h2 => ?_) (fun h2 => ?_)
  ·
   refine .skip (TQ.then (.seq (.block (.region (.v (.move rfl) (.v (.move rfl) (.v (.conv_64_32 underlying3 underlying23 rfl) ?_)))))))
   refine .v (.add32 (a := 77#32) rfl rfl) (.buildSlice (zs := [.int .u32 0]) (cs := [_]) underlying31 sizeOf23 zeroValue23 rfl rfl rfl (by kernel_rfl) rfl rfl (fun b27 => ?_))
   refine .append (k := 1) (us := [_]) underlying31 typeInfo23 rfl rfl rfl rfl (by decide) rfl rfl .tk .tk (by rfl) (by rfl) rfl (by simp only [t23]; omega) rfl (fun v28 hv28 => ?_)
   refine .v (.assign rfl) (.nil (.blk_normal (TQ.then (.region (.v (.move rfl) (.v (.add64 rfl rfl (by omega)) ?_))))))
   refine .v (.assign rfl) (.nil ?_)
   exact .next ⟨(j + 1, v28), by dsimp only; omega, hv28⟩ (by dsimp only; omega) .st (by rw [show w32s (st ++ marks (j + 1)) = w32s (st ++ marks j) ++ [w32 (77#32 + BitVec.ofInt 32 (j : Int))] from by rw [marks_succ, ← List.append_assoc, w32s_append]; rfl]; exact .en)
  ·
   refine .exit (.then_exit (.then_exit (.blk_hit (TQ.then ?_))))
   obtain rfl : j = 120 := by omega
   refine .ent (Ent.trans (Ent.perm (M := [GSl 23 1 v5 (st.length + 120) (w32s (st ++ marks 120))]) .pk) (Ent.trans GSl.win (Ent.trans (Ent.perm (M := [WinV 23 v5 (w32s (st ++ marks 120)), Wins 23 ws ((S.take i).map mkd)]) .pk) (Wins.push (s := mkd st))))) ?_
   refine .region (.v (.move rfl) (.v (.move rfl) (.buildSlice (zs := [.slice none 0 0]) (cs := [v5]) underlying25 sizeOf31 zeroValue31 rfl rfl rfl (by kernel_rfl) (fill_cell hv5) rfl (fun b31 => ?_))))
   refine .append (k := 1) (us := [v5]) underlying25 typeInfo31 rfl rfl rfl rfl (by decide) rfl rfl .tk .tk (by rfl) (by rfl) (by simp [hv5]) (by simp only [t31]; omega) rfl (fun v32 hv32 => ?_)
   refine .v (.assign rfl) (.nil (.blk_normal (TQ.then (.region (.v (.move rfl) (.v (.add64 rfl rfl (by omega)) ?_))))))
   refine .v (.assign rfl) (.nil ?_)
   exact .next ⟨(i + 1, v32, ws ++ [v5]), by dsimp only; omega, hv32, by simp [hws]⟩ (by dsimp only; omega) .st (by dsimp only; rw [show (S.take (i + 1)).map mkd = (S.take i).map mkd ++ [mkd st] from by rw [List.take_add_one, hs1, List.map_append]; rfl]; exact .en)
 ·
  obtain rfl : i = us.length := by omega
  refine .exit (.then_exit (.then_exit (.blk_hit (TQ.then (.seq (.region (.v (.move rfl) (.v (.assign rfl) (.nil (TQ.then (.ret ?_)))))))))))
  exact .ret results37 (.tmp rfl .nil) (v3, ws) (by first | rfl | simp [tup, *]) (hws.trans hl) (by rw [List.take_of_length_le (by omega)]; rw [← hws]; exact Ent.trans (Ent.perm (M := [GSl 31 1 v3 ws.length ws, Wins 23 ws (S.map mkd)]) .pk) (Ent.trans (Ent.sepR (A := GSl 31 1 v3 ws.length ws)) .en))

set_option maxHeartbeats 1000000 in
theorem S_wardenlaw19_pieces {v : Value} {us : List Value} {T : List (List W)} {A : Assn} (hR : Rd2 A v us T) (ht : ∀ t ∈ T, 120 ≤ t.length ∧ t.length ≤ 3000000) (hn : T.length ≤ 2000000) : Spec prog 39 [v].toArray [A] (fun x : Value × List Value => Pcs us x.2 T) (fun x => x.1) (fun x => [GSl 31 1 x.1 x.2.length x.2, A]) := by
 refine Spec.body func39 rfl ntmps39 rfl (fun σ R => ?_)
 have hl := hR.len
 refine .seq (.region (.v (.assign rfl) (.nil (TQ.then (.seq (.shpR hR.out .tk (fun hS => ?_)))))))
 refine .ent (GSl.emp (E := 31) (k := 1)) ?_
 refine .region (.v (.assign rfl) (.nil (TQ.then (.seq (.seq (.region (.v (.assign rfl) (.nil (TQ.then (.block ?_))))))))))
 refine .loop (X := {x : Nat × Value × List Value // x.1 ≤ us.length ∧ isCell x.2.1 = true ∧ Pcs (us.take x.1) x.2.2 (T.take x.1)}) (s0 := [(0, _)]) (fun x => [(3, x.1.2.1), (4, i64 x.1.1)]) (fun x => [A, GSl 31 1 x.1.2.1 x.1.1 x.1.2.2]) (fun x => us.length - x.1.1) ⟨(0, .slice none 0 0, []), Nat.zero_le _, rfl, ⟨rfl, fun i u t h => by simp at h⟩⟩ .st .pk (fun x => ?_)
 refine .seq (.seq ?_)
 obtain ⟨⟨i, v3, ws⟩, hi, hv3, hws⟩ := x
 dsimp only at hi hv3 hws ⊢
 refine .region (.v (.move rfl) (.v (.move rfl) (.v (.lenS underlying25 rfl hS) ?_)))
 refine .v (.lss rfl rfl) (.nil (TQ.then ?_))
 first | refine .cond_dec rfl (fun h1 => ?_) (fun h1 => ?_) | refine .cond rfl (fun h1 => ?_) (fun h1 => ?_)
 ·
  obtain ⟨u, st, hus⟩ := hR.at (i : Int)
  obtain ⟨hu1, hs1, hr1⟩ := hus (by omega)
  rw [show ((i : Nat) : Int).toNat = i by omega] at hu1 hs1
  have hbt := ht st (List.mem_of_getElem? hs1)
  refine .openRd (v := u) .tk hr1 (fun hv9 hv8 => ?_) (fun g off cp hv9 hcp => ?_)
  ·
   exfalso; have h0 := congrArg List.length hv8; rw [w32s_length, List.length_nil] at h0; omega
  subst hv9
  rw [w32s_length] at hcp hu1
  refine .skip (TQ.then (.seq (.block (.draw (H := [A]) (.q 0 (.q 1 (.q 2 (.q 3 (.q 4 (.q 5 (.q 6 (.q 7 (.q 8 (.q 9 (.q 10 (.q 11 (.e 12 (.e 13 (.q 14 .done))))))))))))))) (by kernel_rfl) .pk (by kernel_rfl) (by kernel_rfl) (by kernel_rfl) ?_))))
  refine .v rfl (.move rfl) (.v rfl (.move rfl) (.v rfl (.move rfl) (.v rfl (.ixS underlying25 sizeOf31 hS rfl rfl (by omega)) ?_)))
  refine .v rfl (.loadE isAgg31 rfl .tk hR.out (by rw [show ((i : Nat) : Int).toNat = i by omega]; exact hu1)) ?_
  refine .v rfl (.move rfl) (.v rfl (.move rfl) (.v rfl (.ixS underlying25 sizeOf31 hS rfl rfl (by omega)) ?_))
  refine .v rfl (.loadE isAgg31 rfl .tk hR.out (by rw [show ((i : Nat) : Int).toNat = i by omega]; exact hu1)) ?_
  refine .v rfl (.lenE underlying31 rfl rfl) ?_
  refine .v rfl (.sub64 rfl rfl (by omega)) ?_
  refine .v rfl (.sliceHi underlying31 sizeOf23 rfl rfl (by omega)) ?_
  refine .eff rfl (fun fu_ li_ hk_ hs_ hl_ => ?_)
  refine .buildSlice (zs := [.slice none 0 0]) (cs := [_]) underlying25 sizeOf31 zeroValue31 rfl rfl rfl (by kernel_rfl) rfl rfl (fun b23 => ?_)
  refine .nil (TS.back hk_ hs_ hl_ .pk ?_)
  refine .eff rfl (fun fu_ li_ hk_ hs_ hl_ => ?_)
  refine .append (k := 1) (us := [_]) underlying25 typeInfo31 rfl rfl rfl rfl (by decide) rfl rfl .tk .tk (by rfl) (by rfl) rfl (by simp only [t31]; omega) rfl (fun v24 hv24 => ?_)
  refine .nil (TS.back hk_ hs_ hl_ .pk ?_)
  refine .v rfl (.assign rfl) (.done (.blk_normal (TQ.then (.region (.v (.move rfl) (.v (.add64 rfl rfl (by omega)) ?_))))))
  refine .v (.assign rfl) (.nil ?_)
  exact .next ⟨(i + 1, v24, ws ++ [.slice (some ⟨g, off, none⟩) ((st.length : Int) - 120).toNat cp]), by dsimp only; omega, hv24, hws.push hu1 hs1 (by omega) (by omega)⟩ (by dsimp only; omega) .st .en
 ·
  obtain rfl : i = us.length := by omega
  rw [List.take_of_length_le (by omega), List.take_of_length_le (by omega)] at hws
  obtain hwl := hws.len
  refine .exit (.then_exit (.then_exit (.blk_hit (TQ.then (.seq (.region (.v (.move rfl) (.v (.assign rfl) (.nil (TQ.then (.ret ?_)))))))))))
  exact .ret results39 (.tmp rfl .nil) (v3, ws) (by first | rfl | simp [tup, *]) hws (by dsimp only; rw [hwl]; exact .en)

theorem fo_37_0_WLaw2 : FieldOff prog 37 0 0 := FieldOff.of 35 15 underlying37 rfl sizeOf35 rfl
theorem fo_37_1_WLaw2 : FieldOff prog 37 1 15 := FieldOff.of 23 1 underlying37 rfl sizeOf23 rfl
theorem fo_37_2_WLaw2 : FieldOff prog 37 2 16 := FieldOff.of 4 1 underlying37 rfl sizeOf4 rfl
theorem fo_37_3_WLaw2 : FieldOff prog 37 3 17 := FieldOff.of 4 1 underlying37 rfl sizeOf4 rfl
theorem fo_37_4_WLaw2 : FieldOff prog 37 4 18 := FieldOff.of 4 1 underlying37 rfl sizeOf4 rfl
theorem pl_82_WLaw2 : Places prog 82 [(0, 15), (15, 1), (16, 1), (17, 1), (18, 1)] := ⟨_, underlying82, fun w => by simp [sizeOf4, sizeOf23, sizeOf35]⟩
set_option maxHeartbeats 400000 in
theorem S_wardenlaw19_docFile {F : File} : Spec prog 41 [F.val].toArray [] (fun _ : Unit => True) (fun _ => F.val) (fun _ => []) := by
 refine Spec.body func41 rfl ntmps41 rfl (fun σ R => ?_)
 refine .seq (.region (.box (vs := F.cells) rfl rfl rfl (fun b1 => ?_)))
 refine .alloc zeroValue82 rfl rfl (fun b2 => ?_)
 refine .nil (TQ.then (.seq (.region (.v (.field fo_37_0_WLaw2 rfl) (.v (.loadAgg (vs := [_, _, _, _, _, _, _, _, _, _, _, _, _, _, _]) isAgg35 sizeOf35 rfl .tk (by rfl) (by rfl)) ?_)))))
 refine .v (.field fo_37_1_WLaw2 rfl) (.v (.load isAgg23 rfl .tk (by rfl)) ?_)
 refine .v (.field fo_37_2_WLaw2 rfl) (.v (.load isAgg4 rfl .tk (by rfl)) ?_)
 refine .v (.field fo_37_3_WLaw2 rfl) (.v (.load isAgg4 rfl .tk (by rfl)) ?_)
 refine .v (.field fo_37_4_WLaw2 rfl) (.v (.load isAgg4 rfl .tk (by rfl)) ?_)
 refine .v (.buildS (zs := [.int .u32 0, .int .u32 0, .int .u32 0, .int .u32 0, .int .u32 0, .int .u32 0, .int .u32 0, .int .u32 0, .int .u32 0, .int .u32 0, .int .u32 0, .int .u32 0, .int .u32 0, .int .u32 0, .int .u32 0, .int .u32 0, .bool false, .bool false, .bool false]) (cs := [_, _, _, _, _, _, _, _, _, _, _, _, _, _, _, _, _, _, _]) zeroValue82 rfl pl_82_WLaw2 (.cons (us := [_, _, _, _, _, _, _, _, _, _, _, _, _, _, _]) rfl rfl rfl rfl rfl (.cons (us := [_]) rfl rfl rfl rfl rfl (.cons (us := [_]) rfl rfl rfl rfl rfl (.cons (us := [_]) rfl rfl rfl rfl rfl (.cons (us := [_]) rfl rfl rfl rfl rfl (.nil rfl))))))) ?_
 refine .storeAll (us := F.cells) sizeOf82 rfl rfl rfl rfl .up rfl ?_
 refine .nil (TQ.then (.ret ?_))
 exact .ret results41 (.agg (us := F.cells) isAgg82 sizeOf82 rfl .tk (by rfl) (by rfl) .nil) () rfl trivial .en

set_option maxHeartbeats 1000000 in
theorem S_wardenlaw19_kept {lv : Value} {lus : List Value} {C : Assn} {v : Value} {us : List Value} {S : List (List W)} {A : Assn} (hR : Rd2 A v us S) (hC : Rd2 C lv lus (S.map mkd)) (hb : ∀ s ∈ S, s.length ≤ 2000000) (hn : S.length ≤ 2000000) : Spec prog 42 [lv, v].toArray [C, A] (fun _ : Unit => True) (fun _ => .bool true) (fun _ => [C, A]) := by
 refine Spec.body func42 rfl ntmps42 rfl (fun σ R => ?_)
 refine .seq (.region (.v (.assign rfl) (.nil (TQ.then (.seq (.region (.v (.move rfl) (.call call37 (S_wardenlaw19_copied hR hb hn) rfl .pk rfl (fun x9 hx9 => ?_)))))))))
 refine .v (.assign rfl) (.nil (TQ.then (.seq (.seq ?_))))
 obtain ⟨v9, us9⟩ := x9
 dsimp only at hx9 ⊢
 have hK := Cop.rd2 (E := 31) (v := v9) (us := us9) (ss := S.map mkd) (by rw [hx9, List.length_map])
 have hl2 := hC.len
 rw [List.length_map] at hl2
 refine .shpR hK.out .tk (fun hS9 => ?_)
 refine .shpR hC.out .tk (fun hSl => ?_)
 refine .region (.v (.assign rfl) (.nil (TQ.then (.block (.loop (X := {i : Nat // i ≤ us9.length}) (s0 := [(0, _), (5, _)]) (fun x => [(6, i64 x.1)]) (fun x => [C, A, Cop 31 v9 us9 (S.map mkd)]) (fun x => us9.length - x.1) ⟨0, Nat.zero_le _⟩ .st .pk (fun x => ?_))))))
 refine .seq (.seq ?_)
 obtain ⟨i, hi⟩ := x
 dsimp only
 refine .region (.v (.move rfl) (.v (.move rfl) (.v (.lenS underlying25 rfl hS9) ?_)))
 refine .v (.lss rfl rfl) (.nil (TQ.then ?_))
 first | refine .cond_dec rfl (fun h1 => ?_) (fun h1 => ?_) | refine .cond rfl (fun h1 => ?_) (fun h1 => ?_)
 ·
  obtain ⟨u1, st, hus⟩ := hK.at (i : Int)
  obtain ⟨hu1, hs1, hr1⟩ := hus (by omega)
  obtain ⟨u2, st2, hus2⟩ := hC.at (i : Int)
  obtain ⟨hu2, hs2, hr2⟩ := hus2 (by omega)
  rw [show ((i : Nat) : Int).toNat = i by omega] at hu1 hs1 hu2 hs2
  obtain rfl : st = st2 := Option.some.inj (hs1.symm.trans hs2)
  have hbs : st.length ≤ 2000120 := by
   obtain ⟨s0, h0, h00⟩ := List.mem_map.1 (List.mem_of_getElem? hs1)
   rw [← h00, mkd_len]; have := hb s0 h0; omega
  refine .shpR hr1 .tk (fun hSu1 => ?_)
  refine .shpR hr2 .tk (fun hSu2 => ?_)
  rw [w32s_length] at hSu1 hSu2
  refine .skip (TQ.then (.seq (.block (.seq (.region (.v (.assign rfl) (.nil (TQ.then (.block (.loop (X := {j : Nat // j ≤ st.length}) (s0 := [(0, _), (5, _), (6, _)]) (fun y => [(7, i64 y.1)]) (fun y => [C, A, Cop 31 v9 us9 (S.map mkd)]) (fun y => st.length - y.1) ⟨0, Nat.zero_le _⟩ .st .pk (fun y => ?_)))))))))))
  refine .seq (.seq ?_)
  obtain ⟨j, hj⟩ := y
  dsimp only
  refine .region (.v (.move rfl) (.v (.move rfl) (.v (.move rfl) (.v (.ixS underlying25 sizeOf31 hS9 rfl rfl (by omega)) ?_))))
  refine .v (.loadE isAgg31 rfl .tk hK.out (by rw [show ((i : Nat) : Int).toNat = i by omega]; exact hu1)) ?_
  refine .v (.lenS underlying31 rfl hSu1) ?_
  refine .v (.lss rfl rfl) (.nil (TQ.then ?_))
  first | refine .cond_dec rfl (fun h2 => ?_) (fun h2 => ?_) | refine .cond rfl (fun h2 => ?_) (fun h2 => ?_)
  ·
   refine .skip (TQ.then (.seq (.block (.seq (.draw (H := [C, Cop 31 v9 us9 (S.map mkd)]) (.q 0 (.q 1 (.q 2 (.q 3 (.q 4 (.q 5 (.q 6 (.q 7 (.q 8 (.q 9 (.q 10 (.q 11 (.q 12 (.q 13 (.q 14 .done))))))))))))))) (by kernel_rfl) .pk (by kernel_rfl) (by kernel_rfl) (by kernel_rfl) ?_)))))
   refine .v rfl (.move rfl) (.v rfl (.move rfl) (.v rfl (.ixS underlying25 sizeOf31 hSl rfl rfl (by omega)) ?_))
   refine .v rfl (.loadE isAgg31 rfl .tk hC.out (by rw [show ((i : Nat) : Int).toNat = i by omega]; exact hu2)) ?_
   refine .v rfl (.move rfl) (.v rfl (.ixS underlying31 sizeOf23 hSu2 rfl rfl (by omega)) ?_)
   refine .v rfl (.loadE isAgg23 rfl .tk hr2 (w32s_get (v := wAt st j) (by rw [show ((j : Nat) : Int).toNat = j by omega]; exact wAt_get (by omega)))) ?_
   refine .v rfl (.move rfl) (.v rfl (.move rfl) (.v rfl (.ixS underlying25 sizeOf31 hS9 rfl rfl (by omega)) ?_))
   refine .v rfl (.loadE isAgg31 rfl .tk hK.out (by rw [show ((i : Nat) : Int).toNat = i by omega]; exact hu1)) ?_
   refine .v rfl (.move rfl) (.v rfl (.ixS underlying31 sizeOf23 hSu1 rfl rfl (by omega)) ?_)
   refine .v rfl (.loadE isAgg23 rfl .tk hr1 (w32s_get (v := wAt st j) (by rw [show ((j : Nat) : Int).toNat = j by omega]; exact wAt_get (by omega)))) ?_
   refine .v rfl (.neq32 rfl rfl) ?_
   refine .done (TQ.then ?_)
   first | refine .cond_dec rfl (fun h3 => ?_) (fun h3 => ?_) | refine .cond rfl (fun h3 => ?_) (fun h3 => ?_)
   ·
    exfalso
    simp at h3
   ·
    refine .skip (.blk_normal (TQ.then (.region (.v (.move rfl) (.v (.add64 rfl rfl (by omega)) ?_)))))
    refine .v (.assign rfl) (.nil ?_)
    exact .next ⟨j + 1, by omega⟩ (by dsimp only; omega) .st .en
  ·
   refine .exit (.then_exit (.then_exit (.blk_hit (.blk_normal (TQ.then (.region (.v (.move rfl) (.v (.add64 rfl rfl (by omega)) ?_))))))))
   refine .v (.assign rfl) (.nil ?_)
   exact .next ⟨i + 1, by omega⟩ (by dsimp only; omega) .st .en
 ·
  refine .exit (.then_exit (.then_exit (.blk_hit (TQ.then (.seq (.region (.v (.assign rfl) (.nil (TQ.then (.ret ?_))))))))))
  exact .ret results42 (.tmp rfl .nil) () (by first | rfl | simp [tup, *]) trivial .en

theorem S_RDoD {d m : Nat} {D T : Db} (h : D.same T) {th : Int} {n : W} {F : File} {K : S8} {v : Value} {S : List (List W)} {us : List Value} {A : Assn} (hR : Rd2 A v us S) (hK1 : Tab A 1) : Spec prog 40 [ptr d, K.val, v, i64 th, w32 n, F.val].toArray [RDbA d m T, A] (fun x : Db => (doR K S D th n F).db.same x) (fun _ => .tuple #[(doR K S D th n F).f.val, .bool (doR K S D th n F).out, w32 (doR K S D th n F).val, i64 (doR K S D th n F).err]) (fun x => [RDbA d m x, A]) := by
 obtain ⟨e1, e2, e3, e4, e5⟩ := doR_same h (K := K) (S := S) (th := th) (n := n) (F := F)
 rw [e1, e2, e3, e4]
 exact (S_wardenref19_Do hR hK1).wide .pk (fun x hx => e5.trans hx.symm) (fun x => .en)

theorem fo_41_0_WLaw2 : FieldOff prog 41 0 0 := FieldOff.of 3 1 underlying41 rfl sizeOf3 rfl
theorem fo_41_1_WLaw2 : FieldOff prog 41 1 1 := FieldOff.of 23 1 underlying41 rfl sizeOf23 rfl
theorem fo_41_2_WLaw2 : FieldOff prog 41 2 2 := FieldOff.of 37 19 underlying41 rfl sizeOf37 rfl
theorem fo_60_1_WLaw2 : FieldOff prog 60 1 1 := FieldOff.of 52 1 underlying60 rfl sizeOf52 rfl
theorem fo_60_2_WLaw2 : FieldOff prog 60 2 2 := FieldOff.of 57 1 underlying60 rfl sizeOf57 rfl
set_option maxHeartbeats 4000000 in
theorem S_wardenlaw19_State_called {s m m2 d r : Nat} {D T : Db} (h : D.same T) {v : Value} {us : List Value} {S : List (List W)} {A : Assn} (hR : Rd2 A v us S) (hK0 : Tab A 0) (hK1 : Tab A 1) (hb : ∀ s ∈ S, s.length ≤ 2000000) (hn : S.length ≤ 2000000) {K : S8} {th : Int} {n : W} {F : File} {sec : Bool} {pg off : Int} {u : Value} (hu : isCell u = true) : Spec prog 8 [ptr s, K.val, v, .agg #[i64 th, w32 n, w32 F.r0, w32 F.r1, w32 F.r2, w32 F.r3, w32 F.r4, w32 F.r5, w32 F.r6, w32 F.r7, w32 F.r8, w32 F.r9, w32 F.r10, w32 F.r11, w32 F.r12, w32 F.r13, w32 F.r14, w32 F.pc, .bool F.z, .bool F.n, .bool F.l, .bool sec, i64 pg, i64 off, u]].toArray [.row s [ptr m, ptr d, ptr r] 60, DbA d m D, RDbA r m2 T, A] (fun x : Db × Db => x.1.same x.2) (fun x => .bool true) (fun x => [.row s [ptr m, ptr d, ptr r] 60, DbA d m x.1, RDbA r m2 x.2, A]) := by
 refine Spec.body func8 rfl ntmps8 rfl (fun σ R => ?_)
 refine .seq (.region (.box (vs := [_, _, _, _, _, _, _, _]) rfl rfl rfl (fun b5 => ?_)))
 refine .box (vs := [i64 th, w32 n, w32 F.r0, w32 F.r1, w32 F.r2, w32 F.r3, w32 F.r4, w32 F.r5, w32 F.r6, w32 F.r7, w32 F.r8, w32 F.r9, w32 F.r10, w32 F.r11, w32 F.r12, w32 F.r13, w32 F.r14, w32 F.pc, .bool F.z, .bool F.n, .bool F.l, .bool sec, i64 pg, i64 off, u]) rfl (by simp [Value.cells, isCell_cells hu, Array.flatMap]) rfl (fun b7 => ?_)
 refine .v (.assign rfl) (.nil (TQ.then (.seq (.region (.v (.move rfl) (.call call37 (S_wardenlaw19_copied hR hb hn) rfl .pk rfl (fun x19 hx19 => ?_)))))))
 refine .v (.assign rfl) (.nil (TQ.then (.seq ?_)))
 obtain ⟨v9, us9⟩ := x19
 dsimp only at hx19 ⊢
 have hK := Cop.rd2 (E := 31) (v := v9) (us := us9) (ss := S.map mkd) (by rw [hx19, List.length_map])
 have hmk : ∀ t ∈ S.map mkd, 120 ≤ t.length ∧ t.length ≤ 3000000 := fun t ht => by
  obtain ⟨s0, h0, h00⟩ := List.mem_map.1 ht
  rw [← h00, mkd_len]; have := hb s0 h0; omega
 refine .draw (H := [.row s _ _, .row b5 _ _, .row b7 _ _]) (.q 0 (.q 1 (.q 2 (.q 3 (.q 4 (.q 5 (.q 7 (.q 8 (.q 9 (.q 10 (.q 11 (.q 12 (.b 6 (.b 13 (.q 14 (.q 15 (.q 16 (.q 17 (.q 18 (.e 19 (.e 20 (.q 21 (.q 22 (.q 23 .done)))))))))) 19 (.e 13 (.q 14 (.q 15 (.q 16 (.q 17 (.q 18 (.e 20 (.q 21 (.q 22 (.q 23 .done))))))))))) 19 (.e 6 (.e 13 (.q 14 (.q 15 (.q 16 (.q 17 (.q 18 (.e 20 (.q 21 (.q 22 (.q 23 .done)))))))))))))))))))))))) (by kernel_rfl) .pk (by kernel_rfl) (by kernel_rfl) (by kernel_rfl) ?_
 refine .v rfl (.move rfl) (.v rfl (.nilCheck rfl) (.v rfl (.field fo_60_1_WLaw2 rfl) (.v rfl (.load isAgg52 rfl .tk (by rfl)) ?_)))
 refine .v rfl (.loadAgg (vs := [_, _, _, _, _, _, _, _]) isAgg24 sizeOf24 rfl .tk (by rfl) (by rfl)) ?_
 refine .v rfl (.move rfl) (.v rfl (.field fo_41_0_WLaw2 rfl) (.v rfl (.load isAgg3 rfl .tk (by rfl)) ?_))
 refine .v rfl (.field fo_41_1_WLaw2 rfl) (.v rfl (.load isAgg23 rfl .tk (by rfl)) ?_)
 refine .v rfl (.field fo_41_2_WLaw2 rfl) (.v rfl (.loadAgg (vs := F.cells) isAgg37 sizeOf37 rfl .tk (by rfl) (by rfl)) ?_)
 refine .both rfl rfl (fun fu_ li_ hk_ hs_ hl_ => ?_) (fun fu_ li_ hk_ hs_ hl_ => ?_)
 ·
  refine .call call39 (S_wardenlaw19_pieces hK hmk (by rw [List.length_map]; exact hn)) rfl .pk rfl (fun x27 hx27 => ?_)
  refine .nil (TS.back hk_ hs_ hl_ .pk ?_)
  refine .both rfl rfl (fun fu_ li_ hk_ hs_ hl_ => ?_) (fun fu_ li_ hk_ hs_ hl_ => ?_)
  ·
   refine .ent (Ent.trans (Ent.perm (M := [GSl 31 1 x27.1 x27.2.length x27.2, Cop 31 v9 us9 (S.map mkd)]) .pk) (Ent.trans (Ent.sepR (A := GSl 31 1 x27.1 x27.2.length x27.2) (B := Cop 31 v9 us9 (S.map mkd))) (Ent.trans (Ent.perm (M := [.sep (GSl 31 1 x27.1 x27.2.length x27.2) (Cop 31 v9 us9 (S.map mkd)), A]) .pk) (Ent.sepR (A := .sep (GSl 31 1 x27.1 x27.2.length x27.2) (Cop 31 v9 us9 (S.map mkd))) (B := A))))) ?_
   refine .call call38 (S_svc_Do (hx27.rd2 hK).left hK0.right) rfl .pk rfl (fun x34 hx34 => ?_)
   refine .ent (Ent.trans (Ent.perm (M := [.sep (.sep (GSl 31 1 x27.1 x27.2.length x27.2) (Cop 31 v9 us9 (S.map mkd))) A]) .pk) (Ent.trans Ent.sepLR Ent.sepLR)) ?_
   refine .nil (TS.back hk_ hs_ hl_ .pk ?_)
   refine .v rfl (.move rfl) (.v rfl (.extract rfl rfl) (.v rfl (.extract rfl rfl) (.v rfl (.extract rfl rfl) (.v rfl (.extract rfl rfl) (.eff rfl (fun fu_ li_ hk_ hs_ hl_ => ?_))))))
   refine .alloc zeroValue37 rfl rfl (fun b10 => ?_)
   refine .nil (TS.back hk_ hs_ hl_ .pk ?_)
   refine .eff rfl (fun fu_ li_ hk_ hs_ hl_ => ?_)
   refine .storeAll (us := (doR K S D th n F).f.cells) sizeOf37 rfl rfl rfl rfl .up rfl ?_
   refine .nil (TS.back hk_ hs_ hl_ .pk ?_)
   refine .v rfl (.assign rfl) (.v rfl (.assign rfl) (.v rfl (.assign rfl) (.done (TQ.then (.seq (.draw (H := [.row s _ _, .row b5 _ _, .row b7 _ _]) (.q 0 (.q 1 (.q 2 (.q 3 (.q 4 (.q 5 (.q 6 (.q 7 (.q 8 (.q 9 (.q 10 (.q 11 (.b 12 (.b 13 (.q 14 (.q 15 (.q 16 (.q 17 (.q 18 (.e 19 (.e 20 (.q 21 (.q 22 (.q 23 .done)))))))))) 19 (.e 13 (.q 14 (.q 15 (.q 16 (.q 17 (.q 18 (.e 20 (.q 21 (.q 22 (.q 23 .done))))))))))) 19 (.e 12 (.e 13 (.q 14 (.q 15 (.q 16 (.q 17 (.q 18 (.e 20 (.q 21 (.q 22 (.q 23 .done)))))))))))))))))))))))) (by kernel_rfl) .pk (by kernel_rfl) (by kernel_rfl) (by kernel_rfl) ?_))))))
   refine .v rfl (.move rfl) (.v rfl (.nilCheck rfl) (.v rfl (.field fo_60_2_WLaw2 rfl) (.v rfl (.load isAgg57 rfl .tk (by rfl)) ?_)))
   refine .v rfl (.loadAgg (vs := [_, _, _, _, _, _, _, _]) isAgg24 sizeOf24 rfl .tk (by rfl) (by rfl)) ?_
   refine .v rfl (.move rfl) (.v rfl (.field fo_41_0_WLaw2 rfl) (.v rfl (.load isAgg3 rfl .tk (by rfl)) ?_))
   refine .v rfl (.field fo_41_1_WLaw2 rfl) (.v rfl (.load isAgg23 rfl .tk (by rfl)) ?_)
   refine .v rfl (.field fo_41_2_WLaw2 rfl) (.v rfl (.loadAgg (vs := F.cells) isAgg37 sizeOf37 rfl .tk (by rfl) (by rfl)) ?_)
   refine .both rfl rfl (fun fu_ li_ hk_ hs_ hl_ => ?_) (fun fu_ li_ hk_ hs_ hl_ => ?_)
   ·
    refine .call call41 (S_wardenlaw19_docFile (F := F)) rfl .pk rfl (fun x52 hx52 => ?_)
    refine .nil (TS.back hk_ hs_ hl_ .pk ?_)
    refine .both rfl rfl (fun fu_ li_ hk_ hs_ hl_ => ?_) (fun fu_ li_ hk_ hs_ hl_ => ?_)
    ·
     refine .call call40 (S_RDoD h hR hK1) rfl .pk rfl (fun x53 hx53 => ?_)
     refine .nil (TS.back hk_ hs_ hl_ .pk ?_)
     refine .v rfl (.move rfl) (.v rfl (.extract rfl rfl) (.v rfl (.extract rfl rfl) (.v rfl (.extract rfl rfl) (.v rfl (.extract rfl rfl) (.eff rfl (fun fu_ li_ hk_ hs_ hl_ => ?_))))))
     refine .alloc zeroValue82 rfl rfl (fun b14 => ?_)
     refine .nil (TS.back hk_ hs_ hl_ .pk ?_)
     refine .eff rfl (fun fu_ li_ hk_ hs_ hl_ => ?_)
     refine .storeAll (us := (doR K S D th n F).f.cells) sizeOf82 rfl rfl rfl rfl .up rfl ?_
     refine .nil (TS.back hk_ hs_ hl_ .pk ?_)
     refine .v rfl (.assign rfl) (.v rfl (.assign rfl) (.v rfl (.assign rfl) (.done (TQ.then (.seq (.draw (H := [.row b10 _ _, .row b14 _ _]) (.q 0 (.q 2 (.e 1 (.q 3 (.q 4 (.q 5 (.q 6 (.q 7 (.q 8 (.q 9 (.q 10 (.q 11 (.q 12 (.q 13 (.q 14 (.q 15 (.q 17 (.e 16 (.q 18 (.q 19 (.q 20 (.q 21 (.q 22 (.e 23 (.q 24 (.q 25 .done)))))))))))))))))))))))))) (by kernel_rfl) .pk (by kernel_rfl) (by kernel_rfl) (by kernel_rfl) ?_))))))
     refine .v rfl (.loadAgg (vs := (doR K S D th n F).f.cells) isAgg37 sizeOf37 rfl .tk (by rfl) (by rfl)) ?_
     refine .v rfl (.loadAgg (vs := (doR K S D th n F).f.cells) isAgg82 sizeOf82 rfl .tk (by rfl) (by rfl)) ?_
     refine .eff rfl (fun fu_ li_ hk_ hs_ hl_ => ?_)
     refine .call call41 (S_wardenlaw19_docFile (F := (doR K S D th n F).f)) rfl .pk rfl (fun x59 hx59 => ?_)
     refine .nil (TS.back hk_ hs_ hl_ .pk ?_)
     refine .v rfl (.eqlAg eqGuardType82 isAgg82 sizeOf82 typeInfo82 rfl rfl (EqOk.struct underlying82 stoodInHeld82 typeInfo82 isAgg82 sizeOf82 rfl rfl (EqFs.cons (xs := [_, _, _, _, _, _, _, _, _, _, _, _, _, _, _]) (ys := [_, _, _, _, _, _, _, _, _, _, _, _, _, _, _]) (by decide) rfl (EqOk.words underlying35 underlying23 typeInfo23 isAgg23 sizeOf23 typeInfo35 isAgg35 sizeOf35 [(doR K S D th n F).f.r0, (doR K S D th n F).f.r1, (doR K S D th n F).f.r2, (doR K S D th n F).f.r3, (doR K S D th n F).f.r4, (doR K S D th n F).f.r5, (doR K S D th n F).f.r6, (doR K S D th n F).f.r7, (doR K S D th n F).f.r8, (doR K S D th n F).f.r9, (doR K S D th n F).f.r10, (doR K S D th n F).f.r11, (doR K S D th n F).f.r12, (doR K S D th n F).f.r13, (doR K S D th n F).f.r14] [(doR K S D th n F).f.r0, (doR K S D th n F).f.r1, (doR K S D th n F).f.r2, (doR K S D th n F).f.r3, (doR K S D th n F).f.r4, (doR K S D th n F).f.r5, (doR K S D th n F).f.r6, (doR K S D th n F).f.r7, (doR K S D th n F).f.r8, (doR K S D th n F).f.r9, (doR K S D th n F).f.r10, (doR K S D th n F).f.r11, (doR K S D th n F).f.r12, (doR K S D th n F).f.r13, (doR K S D th n F).f.r14] rfl rfl) rfl (EqFs.cons (xs := [_]) (ys := [_]) (by decide) rfl (EqOk.int underlying23 typeInfo23 isAgg23 sizeOf23) rfl (EqFs.cons (xs := [_]) (ys := [_]) (by decide) rfl (EqOk.bool underlying4 typeInfo4 isAgg4 sizeOf4) rfl (EqFs.cons (xs := [_]) (ys := [_]) (by decide) rfl (EqOk.bool underlying4 typeInfo4 isAgg4 sizeOf4) rfl (EqFs.cons (xs := [_]) (ys := [_]) (by decide) rfl (EqOk.bool underlying4 typeInfo4 isAgg4 sizeOf4) rfl .nil))))))) ?_
     refine .v rfl (.move rfl) ?_
     first | refine .part_dec (dj := 62) rfl (fun h1 => ?_) (fun h1 => ?_) | refine .part (dj := 62) rfl (fun h1 => ?_) (fun h1 => ?_)
     ·
      refine .want rfl rfl rfl (.move rfl) rfl ?_
      refine .want rfl rfl rfl (.move rfl) rfl ?_
      refine .want rfl rfl rfl (.eqlBool underlying4 rfl rfl) rfl ?_
      refine .v rfl (.pick_true rfl rfl) (.v rfl (.move rfl) ?_)
      first | refine .part_dec (dj := 67) rfl (fun h2 => ?_) (fun h2 => ?_) | refine .part (dj := 67) rfl (fun h2 => ?_) (fun h2 => ?_)
      ·
       refine .want rfl rfl rfl (.move rfl) rfl ?_
       refine .want rfl rfl rfl (.move rfl) rfl ?_
       refine .want rfl rfl rfl (.eql32 rfl rfl) rfl ?_
       refine .v rfl (.pick_true rfl rfl) (.v rfl (.move rfl) ?_)
       first | refine .part_dec (dj := 72) rfl (fun h3 => ?_) (fun h3 => ?_) | refine .part (dj := 72) rfl (fun h3 => ?_) (fun h3 => ?_)
       ·
        refine .want rfl rfl rfl (.move rfl) rfl ?_
        refine .want rfl rfl rfl (.move rfl) rfl ?_
        refine .eff rfl (fun fu_ li_ hk_ hs_ hl_ => ?_)
        refine .want rfl rfl (.call call16 (S_wardenlaw19_num) rfl .pk rfl (fun x74 hx74 => ?_))
        refine .nil (TS.back hk_ hs_ hl_ .pk ?_)
        refine .want rfl rfl rfl (.eql rfl rfl) rfl ?_
        refine .v rfl (.pick_true rfl rfl) (.v rfl (.move rfl) ?_)
        first | refine .part_dec (dj := 78) rfl (fun h4 => ?_) (fun h4 => ?_) | refine .part (dj := 78) rfl (fun h4 => ?_) (fun h4 => ?_)
        ·
         refine .want rfl rfl rfl (.move rfl) rfl ?_
         refine .want rfl rfl rfl (.move rfl) rfl ?_
         refine .eff rfl (fun fu_ li_ hk_ hs_ hl_ => ?_)
         refine .want rfl rfl (.call call42 (S_wardenlaw19_kept hR hK hb hn) rfl .pk rfl (fun x81 hx81 => ?_))
         refine .nil (TS.back hk_ hs_ hl_ .pk ?_)
         refine .v rfl (.pick_true rfl rfl) (.v rfl (.assign rfl) (.done (TQ.then (.ret ?_))))
         exact .ret results8 (.tmp rfl .nil) (x34, x53) rfl (hx34.same.trans hx53) .en
        ·
         exfalso
         simp at h4
       ·
        exfalso
        simp at h3
      ·
       exfalso
       simp at h2
     ·
      exfalso
      simp at h1
    ·
     refine .alloc zeroValue82 rfl rfl (fun b14 => ?_)
     refine .nil (TS.back hk_ hs_ hl_ .pk ?_)
     refine .eff rfl (fun fu_ li_ hk_ hs_ hl_ => ?_)
     refine .call call40 (S_RDoD h hR hK1) rfl .pk rfl (fun x53 hx53 => ?_)
     refine .nil (TS.back hk_ hs_ hl_ .pk ?_)
     refine .v rfl (.move rfl) (.v rfl (.extract rfl rfl) (.v rfl (.extract rfl rfl) (.v rfl (.extract rfl rfl) (.v rfl (.extract rfl rfl) (.eff rfl (fun fu_ li_ hk_ hs_ hl_ => ?_))))))
     refine .storeAll (us := (doR K S D th n F).f.cells) sizeOf82 rfl rfl rfl rfl .up rfl ?_
     refine .nil (TS.back hk_ hs_ hl_ .pk ?_)
     refine .v rfl (.assign rfl) (.v rfl (.assign rfl) (.v rfl (.assign rfl) (.done (TQ.then (.seq (.draw (H := [.row b10 _ _, .row b14 _ _]) (.q 0 (.q 2 (.e 1 (.q 3 (.q 4 (.q 5 (.q 6 (.q 7 (.q 8 (.q 9 (.q 10 (.q 11 (.q 12 (.q 13 (.q 14 (.q 15 (.q 17 (.e 16 (.q 18 (.q 19 (.q 20 (.q 21 (.q 22 (.e 23 (.q 24 (.q 25 .done)))))))))))))))))))))))))) (by kernel_rfl) .pk (by kernel_rfl) (by kernel_rfl) (by kernel_rfl) ?_))))))
     refine .v rfl (.loadAgg (vs := (doR K S D th n F).f.cells) isAgg37 sizeOf37 rfl .tk (by rfl) (by rfl)) ?_
     refine .v rfl (.loadAgg (vs := (doR K S D th n F).f.cells) isAgg82 sizeOf82 rfl .tk (by rfl) (by rfl)) ?_
     refine .eff rfl (fun fu_ li_ hk_ hs_ hl_ => ?_)
     refine .call call41 (S_wardenlaw19_docFile (F := (doR K S D th n F).f)) rfl .pk rfl (fun x59 hx59 => ?_)
     refine .nil (TS.back hk_ hs_ hl_ .pk ?_)
     refine .v rfl (.eqlAg eqGuardType82 isAgg82 sizeOf82 typeInfo82 rfl rfl (EqOk.struct underlying82 stoodInHeld82 typeInfo82 isAgg82 sizeOf82 rfl rfl (EqFs.cons (xs := [_, _, _, _, _, _, _, _, _, _, _, _, _, _, _]) (ys := [_, _, _, _, _, _, _, _, _, _, _, _, _, _, _]) (by decide) rfl (EqOk.words underlying35 underlying23 typeInfo23 isAgg23 sizeOf23 typeInfo35 isAgg35 sizeOf35 [(doR K S D th n F).f.r0, (doR K S D th n F).f.r1, (doR K S D th n F).f.r2, (doR K S D th n F).f.r3, (doR K S D th n F).f.r4, (doR K S D th n F).f.r5, (doR K S D th n F).f.r6, (doR K S D th n F).f.r7, (doR K S D th n F).f.r8, (doR K S D th n F).f.r9, (doR K S D th n F).f.r10, (doR K S D th n F).f.r11, (doR K S D th n F).f.r12, (doR K S D th n F).f.r13, (doR K S D th n F).f.r14] [(doR K S D th n F).f.r0, (doR K S D th n F).f.r1, (doR K S D th n F).f.r2, (doR K S D th n F).f.r3, (doR K S D th n F).f.r4, (doR K S D th n F).f.r5, (doR K S D th n F).f.r6, (doR K S D th n F).f.r7, (doR K S D th n F).f.r8, (doR K S D th n F).f.r9, (doR K S D th n F).f.r10, (doR K S D th n F).f.r11, (doR K S D th n F).f.r12, (doR K S D th n F).f.r13, (doR K S D th n F).f.r14] rfl rfl) rfl (EqFs.cons (xs := [_]) (ys := [_]) (by decide) rfl (EqOk.int underlying23 typeInfo23 isAgg23 sizeOf23) rfl (EqFs.cons (xs := [_]) (ys := [_]) (by decide) rfl (EqOk.bool underlying4 typeInfo4 isAgg4 sizeOf4) rfl (EqFs.cons (xs := [_]) (ys := [_]) (by decide) rfl (EqOk.bool underlying4 typeInfo4 isAgg4 sizeOf4) rfl (EqFs.cons (xs := [_]) (ys := [_]) (by decide) rfl (EqOk.bool underlying4 typeInfo4 isAgg4 sizeOf4) rfl .nil))))))) ?_
     refine .v rfl (.move rfl) ?_
     first | refine .part_dec (dj := 62) rfl (fun h1 => ?_) (fun h1 => ?_) | refine .part (dj := 62) rfl (fun h1 => ?_) (fun h1 => ?_)
     ·
      refine .want rfl rfl rfl (.move rfl) rfl ?_
      refine .want rfl rfl rfl (.move rfl) rfl ?_
      refine .want rfl rfl rfl (.eqlBool underlying4 rfl rfl) rfl ?_
      refine .v rfl (.pick_true rfl rfl) (.v rfl (.move rfl) ?_)
      first | refine .part_dec (dj := 67) rfl (fun h2 => ?_) (fun h2 => ?_) | refine .part (dj := 67) rfl (fun h2 => ?_) (fun h2 => ?_)
      ·
       refine .want rfl rfl rfl (.move rfl) rfl ?_
       refine .want rfl rfl rfl (.move rfl) rfl ?_
       refine .want rfl rfl rfl (.eql32 rfl rfl) rfl ?_
       refine .v rfl (.pick_true rfl rfl) (.v rfl (.move rfl) ?_)
       first | refine .part_dec (dj := 72) rfl (fun h3 => ?_) (fun h3 => ?_) | refine .part (dj := 72) rfl (fun h3 => ?_) (fun h3 => ?_)
       ·
        refine .want rfl rfl rfl (.move rfl) rfl ?_
        refine .want rfl rfl rfl (.move rfl) rfl ?_
        refine .eff rfl (fun fu_ li_ hk_ hs_ hl_ => ?_)
        refine .want rfl rfl (.call call16 (S_wardenlaw19_num) rfl .pk rfl (fun x74 hx74 => ?_))
        refine .nil (TS.back hk_ hs_ hl_ .pk ?_)
        refine .want rfl rfl rfl (.eql rfl rfl) rfl ?_
        refine .v rfl (.pick_true rfl rfl) (.v rfl (.move rfl) ?_)
        first | refine .part_dec (dj := 78) rfl (fun h4 => ?_) (fun h4 => ?_) | refine .part (dj := 78) rfl (fun h4 => ?_) (fun h4 => ?_)
        ·
         refine .want rfl rfl rfl (.move rfl) rfl ?_
         refine .want rfl rfl rfl (.move rfl) rfl ?_
         refine .eff rfl (fun fu_ li_ hk_ hs_ hl_ => ?_)
         refine .want rfl rfl (.call call42 (S_wardenlaw19_kept hR hK hb hn) rfl .pk rfl (fun x81 hx81 => ?_))
         refine .nil (TS.back hk_ hs_ hl_ .pk ?_)
         refine .v rfl (.pick_true rfl rfl) (.v rfl (.assign rfl) (.done (TQ.then (.ret ?_))))
         exact .ret results8 (.tmp rfl .nil) (x34, x53) rfl (hx34.same.trans hx53) .en
        ·
         exfalso
         simp at h4
       ·
        exfalso
        simp at h3
      ·
       exfalso
       simp at h2
     ·
      exfalso
      simp at h1
   ·
    refine .alloc zeroValue82 rfl rfl (fun b14 => ?_)
    refine .nil (TS.back hk_ hs_ hl_ .pk ?_)
    refine .eff rfl (fun fu_ li_ hk_ hs_ hl_ => ?_)
    refine .call call41 (S_wardenlaw19_docFile (F := F)) rfl .pk rfl (fun x52 hx52 => ?_)
    refine .nil (TS.back hk_ hs_ hl_ .pk ?_)
    refine .eff rfl (fun fu_ li_ hk_ hs_ hl_ => ?_)
    refine .call call40 (S_RDoD h hR hK1) rfl .pk rfl (fun x53 hx53 => ?_)
    refine .nil (TS.back hk_ hs_ hl_ .pk ?_)
    refine .v rfl (.move rfl) (.v rfl (.extract rfl rfl) (.v rfl (.extract rfl rfl) (.v rfl (.extract rfl rfl) (.v rfl (.extract rfl rfl) (.eff rfl (fun fu_ li_ hk_ hs_ hl_ => ?_))))))
    refine .storeAll (us := (doR K S D th n F).f.cells) sizeOf82 rfl rfl rfl rfl .up rfl ?_
    refine .nil (TS.back hk_ hs_ hl_ .pk ?_)
    refine .v rfl (.assign rfl) (.v rfl (.assign rfl) (.v rfl (.assign rfl) (.done (TQ.then (.seq (.draw (H := [.row b10 _ _, .row b14 _ _]) (.q 0 (.q 2 (.e 1 (.q 3 (.q 4 (.q 5 (.q 6 (.q 7 (.q 8 (.q 9 (.q 10 (.q 11 (.q 12 (.q 13 (.q 14 (.q 15 (.q 17 (.e 16 (.q 18 (.q 19 (.q 20 (.q 21 (.q 22 (.e 23 (.q 24 (.q 25 .done)))))))))))))))))))))))))) (by kernel_rfl) .pk (by kernel_rfl) (by kernel_rfl) (by kernel_rfl) ?_))))))
    refine .v rfl (.loadAgg (vs := (doR K S D th n F).f.cells) isAgg37 sizeOf37 rfl .tk (by rfl) (by rfl)) ?_
    refine .v rfl (.loadAgg (vs := (doR K S D th n F).f.cells) isAgg82 sizeOf82 rfl .tk (by rfl) (by rfl)) ?_
    refine .eff rfl (fun fu_ li_ hk_ hs_ hl_ => ?_)
    refine .call call41 (S_wardenlaw19_docFile (F := (doR K S D th n F).f)) rfl .pk rfl (fun x59 hx59 => ?_)
    refine .nil (TS.back hk_ hs_ hl_ .pk ?_)
    refine .v rfl (.eqlAg eqGuardType82 isAgg82 sizeOf82 typeInfo82 rfl rfl (EqOk.struct underlying82 stoodInHeld82 typeInfo82 isAgg82 sizeOf82 rfl rfl (EqFs.cons (xs := [_, _, _, _, _, _, _, _, _, _, _, _, _, _, _]) (ys := [_, _, _, _, _, _, _, _, _, _, _, _, _, _, _]) (by decide) rfl (EqOk.words underlying35 underlying23 typeInfo23 isAgg23 sizeOf23 typeInfo35 isAgg35 sizeOf35 [(doR K S D th n F).f.r0, (doR K S D th n F).f.r1, (doR K S D th n F).f.r2, (doR K S D th n F).f.r3, (doR K S D th n F).f.r4, (doR K S D th n F).f.r5, (doR K S D th n F).f.r6, (doR K S D th n F).f.r7, (doR K S D th n F).f.r8, (doR K S D th n F).f.r9, (doR K S D th n F).f.r10, (doR K S D th n F).f.r11, (doR K S D th n F).f.r12, (doR K S D th n F).f.r13, (doR K S D th n F).f.r14] [(doR K S D th n F).f.r0, (doR K S D th n F).f.r1, (doR K S D th n F).f.r2, (doR K S D th n F).f.r3, (doR K S D th n F).f.r4, (doR K S D th n F).f.r5, (doR K S D th n F).f.r6, (doR K S D th n F).f.r7, (doR K S D th n F).f.r8, (doR K S D th n F).f.r9, (doR K S D th n F).f.r10, (doR K S D th n F).f.r11, (doR K S D th n F).f.r12, (doR K S D th n F).f.r13, (doR K S D th n F).f.r14] rfl rfl) rfl (EqFs.cons (xs := [_]) (ys := [_]) (by decide) rfl (EqOk.int underlying23 typeInfo23 isAgg23 sizeOf23) rfl (EqFs.cons (xs := [_]) (ys := [_]) (by decide) rfl (EqOk.bool underlying4 typeInfo4 isAgg4 sizeOf4) rfl (EqFs.cons (xs := [_]) (ys := [_]) (by decide) rfl (EqOk.bool underlying4 typeInfo4 isAgg4 sizeOf4) rfl (EqFs.cons (xs := [_]) (ys := [_]) (by decide) rfl (EqOk.bool underlying4 typeInfo4 isAgg4 sizeOf4) rfl .nil))))))) ?_
    refine .v rfl (.move rfl) ?_
    first | refine .part_dec (dj := 62) rfl (fun h1 => ?_) (fun h1 => ?_) | refine .part (dj := 62) rfl (fun h1 => ?_) (fun h1 => ?_)
    ·
     refine .want rfl rfl rfl (.move rfl) rfl ?_
     refine .want rfl rfl rfl (.move rfl) rfl ?_
     refine .want rfl rfl rfl (.eqlBool underlying4 rfl rfl) rfl ?_
     refine .v rfl (.pick_true rfl rfl) (.v rfl (.move rfl) ?_)
     first | refine .part_dec (dj := 67) rfl (fun h2 => ?_) (fun h2 => ?_) | refine .part (dj := 67) rfl (fun h2 => ?_) (fun h2 => ?_)
     ·
      refine .want rfl rfl rfl (.move rfl) rfl ?_
      refine .want rfl rfl rfl (.move rfl) rfl ?_
      refine .want rfl rfl rfl (.eql32 rfl rfl) rfl ?_
      refine .v rfl (.pick_true rfl rfl) (.v rfl (.move rfl) ?_)
      first | refine .part_dec (dj := 72) rfl (fun h3 => ?_) (fun h3 => ?_) | refine .part (dj := 72) rfl (fun h3 => ?_) (fun h3 => ?_)
      ·
       refine .want rfl rfl rfl (.move rfl) rfl ?_
       refine .want rfl rfl rfl (.move rfl) rfl ?_
       refine .eff rfl (fun fu_ li_ hk_ hs_ hl_ => ?_)
       refine .want rfl rfl (.call call16 (S_wardenlaw19_num) rfl .pk rfl (fun x74 hx74 => ?_))
       refine .nil (TS.back hk_ hs_ hl_ .pk ?_)
       refine .want rfl rfl rfl (.eql rfl rfl) rfl ?_
       refine .v rfl (.pick_true rfl rfl) (.v rfl (.move rfl) ?_)
       first | refine .part_dec (dj := 78) rfl (fun h4 => ?_) (fun h4 => ?_) | refine .part (dj := 78) rfl (fun h4 => ?_) (fun h4 => ?_)
       ·
        refine .want rfl rfl rfl (.move rfl) rfl ?_
        refine .want rfl rfl rfl (.move rfl) rfl ?_
        refine .eff rfl (fun fu_ li_ hk_ hs_ hl_ => ?_)
        refine .want rfl rfl (.call call42 (S_wardenlaw19_kept hR hK hb hn) rfl .pk rfl (fun x81 hx81 => ?_))
        refine .nil (TS.back hk_ hs_ hl_ .pk ?_)
        refine .v rfl (.pick_true rfl rfl) (.v rfl (.assign rfl) (.done (TQ.then (.ret ?_))))
        exact .ret results8 (.tmp rfl .nil) (x34, x53) rfl (hx34.same.trans hx53) .en
       ·
        exfalso
        simp at h4
      ·
       exfalso
       simp at h3
     ·
      exfalso
      simp at h2
    ·
     exfalso
     simp at h1
  ·
   refine .alloc zeroValue37 rfl rfl (fun b10 => ?_)
   refine .nil (TS.back hk_ hs_ hl_ .pk ?_)
   refine .eff rfl (fun fu_ li_ hk_ hs_ hl_ => ?_)
   refine .ent (Ent.trans (Ent.perm (M := [GSl 31 1 x27.1 x27.2.length x27.2, Cop 31 v9 us9 (S.map mkd)]) .pk) (Ent.trans (Ent.sepR (A := GSl 31 1 x27.1 x27.2.length x27.2) (B := Cop 31 v9 us9 (S.map mkd))) (Ent.trans (Ent.perm (M := [.sep (GSl 31 1 x27.1 x27.2.length x27.2) (Cop 31 v9 us9 (S.map mkd)), A]) .pk) (Ent.sepR (A := .sep (GSl 31 1 x27.1 x27.2.length x27.2) (Cop 31 v9 us9 (S.map mkd))) (B := A))))) ?_
   refine .call call38 (S_svc_Do (hx27.rd2 hK).left hK0.right) rfl .pk rfl (fun x34 hx34 => ?_)
   refine .ent (Ent.trans (Ent.perm (M := [.sep (.sep (GSl 31 1 x27.1 x27.2.length x27.2) (Cop 31 v9 us9 (S.map mkd))) A]) .pk) (Ent.trans Ent.sepLR Ent.sepLR)) ?_
   refine .nil (TS.back hk_ hs_ hl_ .pk ?_)
   refine .v rfl (.move rfl) (.v rfl (.extract rfl rfl) (.v rfl (.extract rfl rfl) (.v rfl (.extract rfl rfl) (.v rfl (.extract rfl rfl) (.eff rfl (fun fu_ li_ hk_ hs_ hl_ => ?_))))))
   refine .storeAll (us := (doR K S D th n F).f.cells) sizeOf37 rfl rfl rfl rfl .up rfl ?_
   refine .nil (TS.back hk_ hs_ hl_ .pk ?_)
   refine .v rfl (.assign rfl) (.v rfl (.assign rfl) (.v rfl (.assign rfl) (.done (TQ.then (.seq (.draw (H := [.row s _ _, .row b5 _ _, .row b7 _ _]) (.q 0 (.q 1 (.q 2 (.q 3 (.q 4 (.q 5 (.q 6 (.q 7 (.q 8 (.q 9 (.q 10 (.q 11 (.b 12 (.b 13 (.q 14 (.q 15 (.q 16 (.q 17 (.q 18 (.e 19 (.e 20 (.q 21 (.q 22 (.q 23 .done)))))))))) 19 (.e 13 (.q 14 (.q 15 (.q 16 (.q 17 (.q 18 (.e 20 (.q 21 (.q 22 (.q 23 .done))))))))))) 19 (.e 12 (.e 13 (.q 14 (.q 15 (.q 16 (.q 17 (.q 18 (.e 20 (.q 21 (.q 22 (.q 23 .done)))))))))))))))))))))))) (by kernel_rfl) .pk (by kernel_rfl) (by kernel_rfl) (by kernel_rfl) ?_))))))
   refine .v rfl (.move rfl) (.v rfl (.nilCheck rfl) (.v rfl (.field fo_60_2_WLaw2 rfl) (.v rfl (.load isAgg57 rfl .tk (by rfl)) ?_)))
   refine .v rfl (.loadAgg (vs := [_, _, _, _, _, _, _, _]) isAgg24 sizeOf24 rfl .tk (by rfl) (by rfl)) ?_
   refine .v rfl (.move rfl) (.v rfl (.field fo_41_0_WLaw2 rfl) (.v rfl (.load isAgg3 rfl .tk (by rfl)) ?_))
   refine .v rfl (.field fo_41_1_WLaw2 rfl) (.v rfl (.load isAgg23 rfl .tk (by rfl)) ?_)
   refine .v rfl (.field fo_41_2_WLaw2 rfl) (.v rfl (.loadAgg (vs := F.cells) isAgg37 sizeOf37 rfl .tk (by rfl) (by rfl)) ?_)
   refine .both rfl rfl (fun fu_ li_ hk_ hs_ hl_ => ?_) (fun fu_ li_ hk_ hs_ hl_ => ?_)
   ·
    refine .call call41 (S_wardenlaw19_docFile (F := F)) rfl .pk rfl (fun x52 hx52 => ?_)
    refine .nil (TS.back hk_ hs_ hl_ .pk ?_)
    refine .both rfl rfl (fun fu_ li_ hk_ hs_ hl_ => ?_) (fun fu_ li_ hk_ hs_ hl_ => ?_)
    ·
     refine .call call40 (S_RDoD h hR hK1) rfl .pk rfl (fun x53 hx53 => ?_)
     refine .nil (TS.back hk_ hs_ hl_ .pk ?_)
     refine .v rfl (.move rfl) (.v rfl (.extract rfl rfl) (.v rfl (.extract rfl rfl) (.v rfl (.extract rfl rfl) (.v rfl (.extract rfl rfl) (.eff rfl (fun fu_ li_ hk_ hs_ hl_ => ?_))))))
     refine .alloc zeroValue82 rfl rfl (fun b14 => ?_)
     refine .nil (TS.back hk_ hs_ hl_ .pk ?_)
     refine .eff rfl (fun fu_ li_ hk_ hs_ hl_ => ?_)
     refine .storeAll (us := (doR K S D th n F).f.cells) sizeOf82 rfl rfl rfl rfl .up rfl ?_
     refine .nil (TS.back hk_ hs_ hl_ .pk ?_)
     refine .v rfl (.assign rfl) (.v rfl (.assign rfl) (.v rfl (.assign rfl) (.done (TQ.then (.seq (.draw (H := [.row b10 _ _, .row b14 _ _]) (.q 0 (.q 2 (.e 1 (.q 3 (.q 4 (.q 5 (.q 6 (.q 7 (.q 8 (.q 9 (.q 10 (.q 11 (.q 12 (.q 13 (.q 14 (.q 15 (.q 17 (.e 16 (.q 18 (.q 19 (.q 20 (.q 21 (.q 22 (.e 23 (.q 24 (.q 25 .done)))))))))))))))))))))))))) (by kernel_rfl) .pk (by kernel_rfl) (by kernel_rfl) (by kernel_rfl) ?_))))))
     refine .v rfl (.loadAgg (vs := (doR K S D th n F).f.cells) isAgg37 sizeOf37 rfl .tk (by rfl) (by rfl)) ?_
     refine .v rfl (.loadAgg (vs := (doR K S D th n F).f.cells) isAgg82 sizeOf82 rfl .tk (by rfl) (by rfl)) ?_
     refine .eff rfl (fun fu_ li_ hk_ hs_ hl_ => ?_)
     refine .call call41 (S_wardenlaw19_docFile (F := (doR K S D th n F).f)) rfl .pk rfl (fun x59 hx59 => ?_)
     refine .nil (TS.back hk_ hs_ hl_ .pk ?_)
     refine .v rfl (.eqlAg eqGuardType82 isAgg82 sizeOf82 typeInfo82 rfl rfl (EqOk.struct underlying82 stoodInHeld82 typeInfo82 isAgg82 sizeOf82 rfl rfl (EqFs.cons (xs := [_, _, _, _, _, _, _, _, _, _, _, _, _, _, _]) (ys := [_, _, _, _, _, _, _, _, _, _, _, _, _, _, _]) (by decide) rfl (EqOk.words underlying35 underlying23 typeInfo23 isAgg23 sizeOf23 typeInfo35 isAgg35 sizeOf35 [(doR K S D th n F).f.r0, (doR K S D th n F).f.r1, (doR K S D th n F).f.r2, (doR K S D th n F).f.r3, (doR K S D th n F).f.r4, (doR K S D th n F).f.r5, (doR K S D th n F).f.r6, (doR K S D th n F).f.r7, (doR K S D th n F).f.r8, (doR K S D th n F).f.r9, (doR K S D th n F).f.r10, (doR K S D th n F).f.r11, (doR K S D th n F).f.r12, (doR K S D th n F).f.r13, (doR K S D th n F).f.r14] [(doR K S D th n F).f.r0, (doR K S D th n F).f.r1, (doR K S D th n F).f.r2, (doR K S D th n F).f.r3, (doR K S D th n F).f.r4, (doR K S D th n F).f.r5, (doR K S D th n F).f.r6, (doR K S D th n F).f.r7, (doR K S D th n F).f.r8, (doR K S D th n F).f.r9, (doR K S D th n F).f.r10, (doR K S D th n F).f.r11, (doR K S D th n F).f.r12, (doR K S D th n F).f.r13, (doR K S D th n F).f.r14] rfl rfl) rfl (EqFs.cons (xs := [_]) (ys := [_]) (by decide) rfl (EqOk.int underlying23 typeInfo23 isAgg23 sizeOf23) rfl (EqFs.cons (xs := [_]) (ys := [_]) (by decide) rfl (EqOk.bool underlying4 typeInfo4 isAgg4 sizeOf4) rfl (EqFs.cons (xs := [_]) (ys := [_]) (by decide) rfl (EqOk.bool underlying4 typeInfo4 isAgg4 sizeOf4) rfl (EqFs.cons (xs := [_]) (ys := [_]) (by decide) rfl (EqOk.bool underlying4 typeInfo4 isAgg4 sizeOf4) rfl .nil))))))) ?_
     refine .v rfl (.move rfl) ?_
     first | refine .part_dec (dj := 62) rfl (fun h1 => ?_) (fun h1 => ?_) | refine .part (dj := 62) rfl (fun h1 => ?_) (fun h1 => ?_)
     ·
      refine .want rfl rfl rfl (.move rfl) rfl ?_
      refine .want rfl rfl rfl (.move rfl) rfl ?_
      refine .want rfl rfl rfl (.eqlBool underlying4 rfl rfl) rfl ?_
      refine .v rfl (.pick_true rfl rfl) (.v rfl (.move rfl) ?_)
      first | refine .part_dec (dj := 67) rfl (fun h2 => ?_) (fun h2 => ?_) | refine .part (dj := 67) rfl (fun h2 => ?_) (fun h2 => ?_)
      ·
       refine .want rfl rfl rfl (.move rfl) rfl ?_
       refine .want rfl rfl rfl (.move rfl) rfl ?_
       refine .want rfl rfl rfl (.eql32 rfl rfl) rfl ?_
       refine .v rfl (.pick_true rfl rfl) (.v rfl (.move rfl) ?_)
       first | refine .part_dec (dj := 72) rfl (fun h3 => ?_) (fun h3 => ?_) | refine .part (dj := 72) rfl (fun h3 => ?_) (fun h3 => ?_)
       ·
        refine .want rfl rfl rfl (.move rfl) rfl ?_
        refine .want rfl rfl rfl (.move rfl) rfl ?_
        refine .eff rfl (fun fu_ li_ hk_ hs_ hl_ => ?_)
        refine .want rfl rfl (.call call16 (S_wardenlaw19_num) rfl .pk rfl (fun x74 hx74 => ?_))
        refine .nil (TS.back hk_ hs_ hl_ .pk ?_)
        refine .want rfl rfl rfl (.eql rfl rfl) rfl ?_
        refine .v rfl (.pick_true rfl rfl) (.v rfl (.move rfl) ?_)
        first | refine .part_dec (dj := 78) rfl (fun h4 => ?_) (fun h4 => ?_) | refine .part (dj := 78) rfl (fun h4 => ?_) (fun h4 => ?_)
        ·
         refine .want rfl rfl rfl (.move rfl) rfl ?_
         refine .want rfl rfl rfl (.move rfl) rfl ?_
         refine .eff rfl (fun fu_ li_ hk_ hs_ hl_ => ?_)
         refine .want rfl rfl (.call call42 (S_wardenlaw19_kept hR hK hb hn) rfl .pk rfl (fun x81 hx81 => ?_))
         refine .nil (TS.back hk_ hs_ hl_ .pk ?_)
         refine .v rfl (.pick_true rfl rfl) (.v rfl (.assign rfl) (.done (TQ.then (.ret ?_))))
         exact .ret results8 (.tmp rfl .nil) (x34, x53) rfl (hx34.same.trans hx53) .en
        ·
         exfalso
         simp at h4
       ·
        exfalso
        simp at h3
      ·
       exfalso
       simp at h2
     ·
      exfalso
      simp at h1
    ·
     refine .alloc zeroValue82 rfl rfl (fun b14 => ?_)
     refine .nil (TS.back hk_ hs_ hl_ .pk ?_)
     refine .eff rfl (fun fu_ li_ hk_ hs_ hl_ => ?_)
     refine .call call40 (S_RDoD h hR hK1) rfl .pk rfl (fun x53 hx53 => ?_)
     refine .nil (TS.back hk_ hs_ hl_ .pk ?_)
     refine .v rfl (.move rfl) (.v rfl (.extract rfl rfl) (.v rfl (.extract rfl rfl) (.v rfl (.extract rfl rfl) (.v rfl (.extract rfl rfl) (.eff rfl (fun fu_ li_ hk_ hs_ hl_ => ?_))))))
     refine .storeAll (us := (doR K S D th n F).f.cells) sizeOf82 rfl rfl rfl rfl .up rfl ?_
     refine .nil (TS.back hk_ hs_ hl_ .pk ?_)
     refine .v rfl (.assign rfl) (.v rfl (.assign rfl) (.v rfl (.assign rfl) (.done (TQ.then (.seq (.draw (H := [.row b10 _ _, .row b14 _ _]) (.q 0 (.q 2 (.e 1 (.q 3 (.q 4 (.q 5 (.q 6 (.q 7 (.q 8 (.q 9 (.q 10 (.q 11 (.q 12 (.q 13 (.q 14 (.q 15 (.q 17 (.e 16 (.q 18 (.q 19 (.q 20 (.q 21 (.q 22 (.e 23 (.q 24 (.q 25 .done)))))))))))))))))))))))))) (by kernel_rfl) .pk (by kernel_rfl) (by kernel_rfl) (by kernel_rfl) ?_))))))
     refine .v rfl (.loadAgg (vs := (doR K S D th n F).f.cells) isAgg37 sizeOf37 rfl .tk (by rfl) (by rfl)) ?_
     refine .v rfl (.loadAgg (vs := (doR K S D th n F).f.cells) isAgg82 sizeOf82 rfl .tk (by rfl) (by rfl)) ?_
     refine .eff rfl (fun fu_ li_ hk_ hs_ hl_ => ?_)
     refine .call call41 (S_wardenlaw19_docFile (F := (doR K S D th n F).f)) rfl .pk rfl (fun x59 hx59 => ?_)
     refine .nil (TS.back hk_ hs_ hl_ .pk ?_)
     refine .v rfl (.eqlAg eqGuardType82 isAgg82 sizeOf82 typeInfo82 rfl rfl (EqOk.struct underlying82 stoodInHeld82 typeInfo82 isAgg82 sizeOf82 rfl rfl (EqFs.cons (xs := [_, _, _, _, _, _, _, _, _, _, _, _, _, _, _]) (ys := [_, _, _, _, _, _, _, _, _, _, _, _, _, _, _]) (by decide) rfl (EqOk.words underlying35 underlying23 typeInfo23 isAgg23 sizeOf23 typeInfo35 isAgg35 sizeOf35 [(doR K S D th n F).f.r0, (doR K S D th n F).f.r1, (doR K S D th n F).f.r2, (doR K S D th n F).f.r3, (doR K S D th n F).f.r4, (doR K S D th n F).f.r5, (doR K S D th n F).f.r6, (doR K S D th n F).f.r7, (doR K S D th n F).f.r8, (doR K S D th n F).f.r9, (doR K S D th n F).f.r10, (doR K S D th n F).f.r11, (doR K S D th n F).f.r12, (doR K S D th n F).f.r13, (doR K S D th n F).f.r14] [(doR K S D th n F).f.r0, (doR K S D th n F).f.r1, (doR K S D th n F).f.r2, (doR K S D th n F).f.r3, (doR K S D th n F).f.r4, (doR K S D th n F).f.r5, (doR K S D th n F).f.r6, (doR K S D th n F).f.r7, (doR K S D th n F).f.r8, (doR K S D th n F).f.r9, (doR K S D th n F).f.r10, (doR K S D th n F).f.r11, (doR K S D th n F).f.r12, (doR K S D th n F).f.r13, (doR K S D th n F).f.r14] rfl rfl) rfl (EqFs.cons (xs := [_]) (ys := [_]) (by decide) rfl (EqOk.int underlying23 typeInfo23 isAgg23 sizeOf23) rfl (EqFs.cons (xs := [_]) (ys := [_]) (by decide) rfl (EqOk.bool underlying4 typeInfo4 isAgg4 sizeOf4) rfl (EqFs.cons (xs := [_]) (ys := [_]) (by decide) rfl (EqOk.bool underlying4 typeInfo4 isAgg4 sizeOf4) rfl (EqFs.cons (xs := [_]) (ys := [_]) (by decide) rfl (EqOk.bool underlying4 typeInfo4 isAgg4 sizeOf4) rfl .nil))))))) ?_
     refine .v rfl (.move rfl) ?_
     first | refine .part_dec (dj := 62) rfl (fun h1 => ?_) (fun h1 => ?_) | refine .part (dj := 62) rfl (fun h1 => ?_) (fun h1 => ?_)
     ·
      refine .want rfl rfl rfl (.move rfl) rfl ?_
      refine .want rfl rfl rfl (.move rfl) rfl ?_
      refine .want rfl rfl rfl (.eqlBool underlying4 rfl rfl) rfl ?_
      refine .v rfl (.pick_true rfl rfl) (.v rfl (.move rfl) ?_)
      first | refine .part_dec (dj := 67) rfl (fun h2 => ?_) (fun h2 => ?_) | refine .part (dj := 67) rfl (fun h2 => ?_) (fun h2 => ?_)
      ·
       refine .want rfl rfl rfl (.move rfl) rfl ?_
       refine .want rfl rfl rfl (.move rfl) rfl ?_
       refine .want rfl rfl rfl (.eql32 rfl rfl) rfl ?_
       refine .v rfl (.pick_true rfl rfl) (.v rfl (.move rfl) ?_)
       first | refine .part_dec (dj := 72) rfl (fun h3 => ?_) (fun h3 => ?_) | refine .part (dj := 72) rfl (fun h3 => ?_) (fun h3 => ?_)
       ·
        refine .want rfl rfl rfl (.move rfl) rfl ?_
        refine .want rfl rfl rfl (.move rfl) rfl ?_
        refine .eff rfl (fun fu_ li_ hk_ hs_ hl_ => ?_)
        refine .want rfl rfl (.call call16 (S_wardenlaw19_num) rfl .pk rfl (fun x74 hx74 => ?_))
        refine .nil (TS.back hk_ hs_ hl_ .pk ?_)
        refine .want rfl rfl rfl (.eql rfl rfl) rfl ?_
        refine .v rfl (.pick_true rfl rfl) (.v rfl (.move rfl) ?_)
        first | refine .part_dec (dj := 78) rfl (fun h4 => ?_) (fun h4 => ?_) | refine .part (dj := 78) rfl (fun h4 => ?_) (fun h4 => ?_)
        ·
         refine .want rfl rfl rfl (.move rfl) rfl ?_
         refine .want rfl rfl rfl (.move rfl) rfl ?_
         refine .eff rfl (fun fu_ li_ hk_ hs_ hl_ => ?_)
         refine .want rfl rfl (.call call42 (S_wardenlaw19_kept hR hK hb hn) rfl .pk rfl (fun x81 hx81 => ?_))
         refine .nil (TS.back hk_ hs_ hl_ .pk ?_)
         refine .v rfl (.pick_true rfl rfl) (.v rfl (.assign rfl) (.done (TQ.then (.ret ?_))))
         exact .ret results8 (.tmp rfl .nil) (x34, x53) rfl (hx34.same.trans hx53) .en
        ·
         exfalso
         simp at h4
       ·
        exfalso
        simp at h3
      ·
       exfalso
       simp at h2
     ·
      exfalso
      simp at h1
   ·
    refine .alloc zeroValue82 rfl rfl (fun b14 => ?_)
    refine .nil (TS.back hk_ hs_ hl_ .pk ?_)
    refine .eff rfl (fun fu_ li_ hk_ hs_ hl_ => ?_)
    refine .call call41 (S_wardenlaw19_docFile (F := F)) rfl .pk rfl (fun x52 hx52 => ?_)
    refine .nil (TS.back hk_ hs_ hl_ .pk ?_)
    refine .eff rfl (fun fu_ li_ hk_ hs_ hl_ => ?_)
    refine .call call40 (S_RDoD h hR hK1) rfl .pk rfl (fun x53 hx53 => ?_)
    refine .nil (TS.back hk_ hs_ hl_ .pk ?_)
    refine .v rfl (.move rfl) (.v rfl (.extract rfl rfl) (.v rfl (.extract rfl rfl) (.v rfl (.extract rfl rfl) (.v rfl (.extract rfl rfl) (.eff rfl (fun fu_ li_ hk_ hs_ hl_ => ?_))))))
    refine .storeAll (us := (doR K S D th n F).f.cells) sizeOf82 rfl rfl rfl rfl .up rfl ?_
    refine .nil (TS.back hk_ hs_ hl_ .pk ?_)
    refine .v rfl (.assign rfl) (.v rfl (.assign rfl) (.v rfl (.assign rfl) (.done (TQ.then (.seq (.draw (H := [.row b10 _ _, .row b14 _ _]) (.q 0 (.q 2 (.e 1 (.q 3 (.q 4 (.q 5 (.q 6 (.q 7 (.q 8 (.q 9 (.q 10 (.q 11 (.q 12 (.q 13 (.q 14 (.q 15 (.q 17 (.e 16 (.q 18 (.q 19 (.q 20 (.q 21 (.q 22 (.e 23 (.q 24 (.q 25 .done)))))))))))))))))))))))))) (by kernel_rfl) .pk (by kernel_rfl) (by kernel_rfl) (by kernel_rfl) ?_))))))
    refine .v rfl (.loadAgg (vs := (doR K S D th n F).f.cells) isAgg37 sizeOf37 rfl .tk (by rfl) (by rfl)) ?_
    refine .v rfl (.loadAgg (vs := (doR K S D th n F).f.cells) isAgg82 sizeOf82 rfl .tk (by rfl) (by rfl)) ?_
    refine .eff rfl (fun fu_ li_ hk_ hs_ hl_ => ?_)
    refine .call call41 (S_wardenlaw19_docFile (F := (doR K S D th n F).f)) rfl .pk rfl (fun x59 hx59 => ?_)
    refine .nil (TS.back hk_ hs_ hl_ .pk ?_)
    refine .v rfl (.eqlAg eqGuardType82 isAgg82 sizeOf82 typeInfo82 rfl rfl (EqOk.struct underlying82 stoodInHeld82 typeInfo82 isAgg82 sizeOf82 rfl rfl (EqFs.cons (xs := [_, _, _, _, _, _, _, _, _, _, _, _, _, _, _]) (ys := [_, _, _, _, _, _, _, _, _, _, _, _, _, _, _]) (by decide) rfl (EqOk.words underlying35 underlying23 typeInfo23 isAgg23 sizeOf23 typeInfo35 isAgg35 sizeOf35 [(doR K S D th n F).f.r0, (doR K S D th n F).f.r1, (doR K S D th n F).f.r2, (doR K S D th n F).f.r3, (doR K S D th n F).f.r4, (doR K S D th n F).f.r5, (doR K S D th n F).f.r6, (doR K S D th n F).f.r7, (doR K S D th n F).f.r8, (doR K S D th n F).f.r9, (doR K S D th n F).f.r10, (doR K S D th n F).f.r11, (doR K S D th n F).f.r12, (doR K S D th n F).f.r13, (doR K S D th n F).f.r14] [(doR K S D th n F).f.r0, (doR K S D th n F).f.r1, (doR K S D th n F).f.r2, (doR K S D th n F).f.r3, (doR K S D th n F).f.r4, (doR K S D th n F).f.r5, (doR K S D th n F).f.r6, (doR K S D th n F).f.r7, (doR K S D th n F).f.r8, (doR K S D th n F).f.r9, (doR K S D th n F).f.r10, (doR K S D th n F).f.r11, (doR K S D th n F).f.r12, (doR K S D th n F).f.r13, (doR K S D th n F).f.r14] rfl rfl) rfl (EqFs.cons (xs := [_]) (ys := [_]) (by decide) rfl (EqOk.int underlying23 typeInfo23 isAgg23 sizeOf23) rfl (EqFs.cons (xs := [_]) (ys := [_]) (by decide) rfl (EqOk.bool underlying4 typeInfo4 isAgg4 sizeOf4) rfl (EqFs.cons (xs := [_]) (ys := [_]) (by decide) rfl (EqOk.bool underlying4 typeInfo4 isAgg4 sizeOf4) rfl (EqFs.cons (xs := [_]) (ys := [_]) (by decide) rfl (EqOk.bool underlying4 typeInfo4 isAgg4 sizeOf4) rfl .nil))))))) ?_
    refine .v rfl (.move rfl) ?_
    first | refine .part_dec (dj := 62) rfl (fun h1 => ?_) (fun h1 => ?_) | refine .part (dj := 62) rfl (fun h1 => ?_) (fun h1 => ?_)
    ·
     refine .want rfl rfl rfl (.move rfl) rfl ?_
     refine .want rfl rfl rfl (.move rfl) rfl ?_
     refine .want rfl rfl rfl (.eqlBool underlying4 rfl rfl) rfl ?_
     refine .v rfl (.pick_true rfl rfl) (.v rfl (.move rfl) ?_)
     first | refine .part_dec (dj := 67) rfl (fun h2 => ?_) (fun h2 => ?_) | refine .part (dj := 67) rfl (fun h2 => ?_) (fun h2 => ?_)
     ·
      refine .want rfl rfl rfl (.move rfl) rfl ?_
      refine .want rfl rfl rfl (.move rfl) rfl ?_
      refine .want rfl rfl rfl (.eql32 rfl rfl) rfl ?_
      refine .v rfl (.pick_true rfl rfl) (.v rfl (.move rfl) ?_)
      first | refine .part_dec (dj := 72) rfl (fun h3 => ?_) (fun h3 => ?_) | refine .part (dj := 72) rfl (fun h3 => ?_) (fun h3 => ?_)
      ·
       refine .want rfl rfl rfl (.move rfl) rfl ?_
       refine .want rfl rfl rfl (.move rfl) rfl ?_
       refine .eff rfl (fun fu_ li_ hk_ hs_ hl_ => ?_)
       refine .want rfl rfl (.call call16 (S_wardenlaw19_num) rfl .pk rfl (fun x74 hx74 => ?_))
       refine .nil (TS.back hk_ hs_ hl_ .pk ?_)
       refine .want rfl rfl rfl (.eql rfl rfl) rfl ?_
       refine .v rfl (.pick_true rfl rfl) (.v rfl (.move rfl) ?_)
       first | refine .part_dec (dj := 78) rfl (fun h4 => ?_) (fun h4 => ?_) | refine .part (dj := 78) rfl (fun h4 => ?_) (fun h4 => ?_)
       ·
        refine .want rfl rfl rfl (.move rfl) rfl ?_
        refine .want rfl rfl rfl (.move rfl) rfl ?_
        refine .eff rfl (fun fu_ li_ hk_ hs_ hl_ => ?_)
        refine .want rfl rfl (.call call42 (S_wardenlaw19_kept hR hK hb hn) rfl .pk rfl (fun x81 hx81 => ?_))
        refine .nil (TS.back hk_ hs_ hl_ .pk ?_)
        refine .v rfl (.pick_true rfl rfl) (.v rfl (.assign rfl) (.done (TQ.then (.ret ?_))))
        exact .ret results8 (.tmp rfl .nil) (x34, x53) rfl (hx34.same.trans hx53) .en
       ·
        exfalso
        simp at h4
      ·
       exfalso
       simp at h3
     ·
      exfalso
      simp at h2
    ·
     exfalso
     simp at h1
 ·
  refine .alloc zeroValue37 rfl rfl (fun b10 => ?_)
  refine .nil (TS.back hk_ hs_ hl_ .pk ?_)
  refine .eff rfl (fun fu_ li_ hk_ hs_ hl_ => ?_)
  refine .call call39 (S_wardenlaw19_pieces hK hmk (by rw [List.length_map]; exact hn)) rfl .pk rfl (fun x27 hx27 => ?_)
  refine .nil (TS.back hk_ hs_ hl_ .pk ?_)
  refine .eff rfl (fun fu_ li_ hk_ hs_ hl_ => ?_)
  refine .ent (Ent.trans (Ent.perm (M := [GSl 31 1 x27.1 x27.2.length x27.2, Cop 31 v9 us9 (S.map mkd)]) .pk) (Ent.trans (Ent.sepR (A := GSl 31 1 x27.1 x27.2.length x27.2) (B := Cop 31 v9 us9 (S.map mkd))) (Ent.trans (Ent.perm (M := [.sep (GSl 31 1 x27.1 x27.2.length x27.2) (Cop 31 v9 us9 (S.map mkd)), A]) .pk) (Ent.sepR (A := .sep (GSl 31 1 x27.1 x27.2.length x27.2) (Cop 31 v9 us9 (S.map mkd))) (B := A))))) ?_
  refine .call call38 (S_svc_Do (hx27.rd2 hK).left hK0.right) rfl .pk rfl (fun x34 hx34 => ?_)
  refine .ent (Ent.trans (Ent.perm (M := [.sep (.sep (GSl 31 1 x27.1 x27.2.length x27.2) (Cop 31 v9 us9 (S.map mkd))) A]) .pk) (Ent.trans Ent.sepLR Ent.sepLR)) ?_
  refine .nil (TS.back hk_ hs_ hl_ .pk ?_)
  refine .v rfl (.move rfl) (.v rfl (.extract rfl rfl) (.v rfl (.extract rfl rfl) (.v rfl (.extract rfl rfl) (.v rfl (.extract rfl rfl) (.eff rfl (fun fu_ li_ hk_ hs_ hl_ => ?_))))))
  refine .storeAll (us := (doR K S D th n F).f.cells) sizeOf37 rfl rfl rfl rfl .up rfl ?_
  refine .nil (TS.back hk_ hs_ hl_ .pk ?_)
  refine .v rfl (.assign rfl) (.v rfl (.assign rfl) (.v rfl (.assign rfl) (.done (TQ.then (.seq (.draw (H := [.row s _ _, .row b5 _ _, .row b7 _ _]) (.q 0 (.q 1 (.q 2 (.q 3 (.q 4 (.q 5 (.q 6 (.q 7 (.q 8 (.q 9 (.q 10 (.q 11 (.b 12 (.b 13 (.q 14 (.q 15 (.q 16 (.q 17 (.q 18 (.e 19 (.e 20 (.q 21 (.q 22 (.q 23 .done)))))))))) 19 (.e 13 (.q 14 (.q 15 (.q 16 (.q 17 (.q 18 (.e 20 (.q 21 (.q 22 (.q 23 .done))))))))))) 19 (.e 12 (.e 13 (.q 14 (.q 15 (.q 16 (.q 17 (.q 18 (.e 20 (.q 21 (.q 22 (.q 23 .done)))))))))))))))))))))))) (by kernel_rfl) .pk (by kernel_rfl) (by kernel_rfl) (by kernel_rfl) ?_))))))
  refine .v rfl (.move rfl) (.v rfl (.nilCheck rfl) (.v rfl (.field fo_60_2_WLaw2 rfl) (.v rfl (.load isAgg57 rfl .tk (by rfl)) ?_)))
  refine .v rfl (.loadAgg (vs := [_, _, _, _, _, _, _, _]) isAgg24 sizeOf24 rfl .tk (by rfl) (by rfl)) ?_
  refine .v rfl (.move rfl) (.v rfl (.field fo_41_0_WLaw2 rfl) (.v rfl (.load isAgg3 rfl .tk (by rfl)) ?_))
  refine .v rfl (.field fo_41_1_WLaw2 rfl) (.v rfl (.load isAgg23 rfl .tk (by rfl)) ?_)
  refine .v rfl (.field fo_41_2_WLaw2 rfl) (.v rfl (.loadAgg (vs := F.cells) isAgg37 sizeOf37 rfl .tk (by rfl) (by rfl)) ?_)
  refine .both rfl rfl (fun fu_ li_ hk_ hs_ hl_ => ?_) (fun fu_ li_ hk_ hs_ hl_ => ?_)
  ·
   refine .call call41 (S_wardenlaw19_docFile (F := F)) rfl .pk rfl (fun x52 hx52 => ?_)
   refine .nil (TS.back hk_ hs_ hl_ .pk ?_)
   refine .both rfl rfl (fun fu_ li_ hk_ hs_ hl_ => ?_) (fun fu_ li_ hk_ hs_ hl_ => ?_)
   ·
    refine .call call40 (S_RDoD h hR hK1) rfl .pk rfl (fun x53 hx53 => ?_)
    refine .nil (TS.back hk_ hs_ hl_ .pk ?_)
    refine .v rfl (.move rfl) (.v rfl (.extract rfl rfl) (.v rfl (.extract rfl rfl) (.v rfl (.extract rfl rfl) (.v rfl (.extract rfl rfl) (.eff rfl (fun fu_ li_ hk_ hs_ hl_ => ?_))))))
    refine .alloc zeroValue82 rfl rfl (fun b14 => ?_)
    refine .nil (TS.back hk_ hs_ hl_ .pk ?_)
    refine .eff rfl (fun fu_ li_ hk_ hs_ hl_ => ?_)
    refine .storeAll (us := (doR K S D th n F).f.cells) sizeOf82 rfl rfl rfl rfl .up rfl ?_
    refine .nil (TS.back hk_ hs_ hl_ .pk ?_)
    refine .v rfl (.assign rfl) (.v rfl (.assign rfl) (.v rfl (.assign rfl) (.done (TQ.then (.seq (.draw (H := [.row b10 _ _, .row b14 _ _]) (.q 0 (.q 2 (.e 1 (.q 3 (.q 4 (.q 5 (.q 6 (.q 7 (.q 8 (.q 9 (.q 10 (.q 11 (.q 12 (.q 13 (.q 14 (.q 15 (.q 17 (.e 16 (.q 18 (.q 19 (.q 20 (.q 21 (.q 22 (.e 23 (.q 24 (.q 25 .done)))))))))))))))))))))))))) (by kernel_rfl) .pk (by kernel_rfl) (by kernel_rfl) (by kernel_rfl) ?_))))))
    refine .v rfl (.loadAgg (vs := (doR K S D th n F).f.cells) isAgg37 sizeOf37 rfl .tk (by rfl) (by rfl)) ?_
    refine .v rfl (.loadAgg (vs := (doR K S D th n F).f.cells) isAgg82 sizeOf82 rfl .tk (by rfl) (by rfl)) ?_
    refine .eff rfl (fun fu_ li_ hk_ hs_ hl_ => ?_)
    refine .call call41 (S_wardenlaw19_docFile (F := (doR K S D th n F).f)) rfl .pk rfl (fun x59 hx59 => ?_)
    refine .nil (TS.back hk_ hs_ hl_ .pk ?_)
    refine .v rfl (.eqlAg eqGuardType82 isAgg82 sizeOf82 typeInfo82 rfl rfl (EqOk.struct underlying82 stoodInHeld82 typeInfo82 isAgg82 sizeOf82 rfl rfl (EqFs.cons (xs := [_, _, _, _, _, _, _, _, _, _, _, _, _, _, _]) (ys := [_, _, _, _, _, _, _, _, _, _, _, _, _, _, _]) (by decide) rfl (EqOk.words underlying35 underlying23 typeInfo23 isAgg23 sizeOf23 typeInfo35 isAgg35 sizeOf35 [(doR K S D th n F).f.r0, (doR K S D th n F).f.r1, (doR K S D th n F).f.r2, (doR K S D th n F).f.r3, (doR K S D th n F).f.r4, (doR K S D th n F).f.r5, (doR K S D th n F).f.r6, (doR K S D th n F).f.r7, (doR K S D th n F).f.r8, (doR K S D th n F).f.r9, (doR K S D th n F).f.r10, (doR K S D th n F).f.r11, (doR K S D th n F).f.r12, (doR K S D th n F).f.r13, (doR K S D th n F).f.r14] [(doR K S D th n F).f.r0, (doR K S D th n F).f.r1, (doR K S D th n F).f.r2, (doR K S D th n F).f.r3, (doR K S D th n F).f.r4, (doR K S D th n F).f.r5, (doR K S D th n F).f.r6, (doR K S D th n F).f.r7, (doR K S D th n F).f.r8, (doR K S D th n F).f.r9, (doR K S D th n F).f.r10, (doR K S D th n F).f.r11, (doR K S D th n F).f.r12, (doR K S D th n F).f.r13, (doR K S D th n F).f.r14] rfl rfl) rfl (EqFs.cons (xs := [_]) (ys := [_]) (by decide) rfl (EqOk.int underlying23 typeInfo23 isAgg23 sizeOf23) rfl (EqFs.cons (xs := [_]) (ys := [_]) (by decide) rfl (EqOk.bool underlying4 typeInfo4 isAgg4 sizeOf4) rfl (EqFs.cons (xs := [_]) (ys := [_]) (by decide) rfl (EqOk.bool underlying4 typeInfo4 isAgg4 sizeOf4) rfl (EqFs.cons (xs := [_]) (ys := [_]) (by decide) rfl (EqOk.bool underlying4 typeInfo4 isAgg4 sizeOf4) rfl .nil))))))) ?_
    refine .v rfl (.move rfl) ?_
    first | refine .part_dec (dj := 62) rfl (fun h1 => ?_) (fun h1 => ?_) | refine .part (dj := 62) rfl (fun h1 => ?_) (fun h1 => ?_)
    ·
     refine .want rfl rfl rfl (.move rfl) rfl ?_
     refine .want rfl rfl rfl (.move rfl) rfl ?_
     refine .want rfl rfl rfl (.eqlBool underlying4 rfl rfl) rfl ?_
     refine .v rfl (.pick_true rfl rfl) (.v rfl (.move rfl) ?_)
     first | refine .part_dec (dj := 67) rfl (fun h2 => ?_) (fun h2 => ?_) | refine .part (dj := 67) rfl (fun h2 => ?_) (fun h2 => ?_)
     ·
      refine .want rfl rfl rfl (.move rfl) rfl ?_
      refine .want rfl rfl rfl (.move rfl) rfl ?_
      refine .want rfl rfl rfl (.eql32 rfl rfl) rfl ?_
      refine .v rfl (.pick_true rfl rfl) (.v rfl (.move rfl) ?_)
      first | refine .part_dec (dj := 72) rfl (fun h3 => ?_) (fun h3 => ?_) | refine .part (dj := 72) rfl (fun h3 => ?_) (fun h3 => ?_)
      ·
       refine .want rfl rfl rfl (.move rfl) rfl ?_
       refine .want rfl rfl rfl (.move rfl) rfl ?_
       refine .eff rfl (fun fu_ li_ hk_ hs_ hl_ => ?_)
       refine .want rfl rfl (.call call16 (S_wardenlaw19_num) rfl .pk rfl (fun x74 hx74 => ?_))
       refine .nil (TS.back hk_ hs_ hl_ .pk ?_)
       refine .want rfl rfl rfl (.eql rfl rfl) rfl ?_
       refine .v rfl (.pick_true rfl rfl) (.v rfl (.move rfl) ?_)
       first | refine .part_dec (dj := 78) rfl (fun h4 => ?_) (fun h4 => ?_) | refine .part (dj := 78) rfl (fun h4 => ?_) (fun h4 => ?_)
       ·
        refine .want rfl rfl rfl (.move rfl) rfl ?_
        refine .want rfl rfl rfl (.move rfl) rfl ?_
        refine .eff rfl (fun fu_ li_ hk_ hs_ hl_ => ?_)
        refine .want rfl rfl (.call call42 (S_wardenlaw19_kept hR hK hb hn) rfl .pk rfl (fun x81 hx81 => ?_))
        refine .nil (TS.back hk_ hs_ hl_ .pk ?_)
        refine .v rfl (.pick_true rfl rfl) (.v rfl (.assign rfl) (.done (TQ.then (.ret ?_))))
        exact .ret results8 (.tmp rfl .nil) (x34, x53) rfl (hx34.same.trans hx53) .en
       ·
        exfalso
        simp at h4
      ·
       exfalso
       simp at h3
     ·
      exfalso
      simp at h2
    ·
     exfalso
     simp at h1
   ·
    refine .alloc zeroValue82 rfl rfl (fun b14 => ?_)
    refine .nil (TS.back hk_ hs_ hl_ .pk ?_)
    refine .eff rfl (fun fu_ li_ hk_ hs_ hl_ => ?_)
    refine .call call40 (S_RDoD h hR hK1) rfl .pk rfl (fun x53 hx53 => ?_)
    refine .nil (TS.back hk_ hs_ hl_ .pk ?_)
    refine .v rfl (.move rfl) (.v rfl (.extract rfl rfl) (.v rfl (.extract rfl rfl) (.v rfl (.extract rfl rfl) (.v rfl (.extract rfl rfl) (.eff rfl (fun fu_ li_ hk_ hs_ hl_ => ?_))))))
    refine .storeAll (us := (doR K S D th n F).f.cells) sizeOf82 rfl rfl rfl rfl .up rfl ?_
    refine .nil (TS.back hk_ hs_ hl_ .pk ?_)
    refine .v rfl (.assign rfl) (.v rfl (.assign rfl) (.v rfl (.assign rfl) (.done (TQ.then (.seq (.draw (H := [.row b10 _ _, .row b14 _ _]) (.q 0 (.q 2 (.e 1 (.q 3 (.q 4 (.q 5 (.q 6 (.q 7 (.q 8 (.q 9 (.q 10 (.q 11 (.q 12 (.q 13 (.q 14 (.q 15 (.q 17 (.e 16 (.q 18 (.q 19 (.q 20 (.q 21 (.q 22 (.e 23 (.q 24 (.q 25 .done)))))))))))))))))))))))))) (by kernel_rfl) .pk (by kernel_rfl) (by kernel_rfl) (by kernel_rfl) ?_))))))
    refine .v rfl (.loadAgg (vs := (doR K S D th n F).f.cells) isAgg37 sizeOf37 rfl .tk (by rfl) (by rfl)) ?_
    refine .v rfl (.loadAgg (vs := (doR K S D th n F).f.cells) isAgg82 sizeOf82 rfl .tk (by rfl) (by rfl)) ?_
    refine .eff rfl (fun fu_ li_ hk_ hs_ hl_ => ?_)
    refine .call call41 (S_wardenlaw19_docFile (F := (doR K S D th n F).f)) rfl .pk rfl (fun x59 hx59 => ?_)
    refine .nil (TS.back hk_ hs_ hl_ .pk ?_)
    refine .v rfl (.eqlAg eqGuardType82 isAgg82 sizeOf82 typeInfo82 rfl rfl (EqOk.struct underlying82 stoodInHeld82 typeInfo82 isAgg82 sizeOf82 rfl rfl (EqFs.cons (xs := [_, _, _, _, _, _, _, _, _, _, _, _, _, _, _]) (ys := [_, _, _, _, _, _, _, _, _, _, _, _, _, _, _]) (by decide) rfl (EqOk.words underlying35 underlying23 typeInfo23 isAgg23 sizeOf23 typeInfo35 isAgg35 sizeOf35 [(doR K S D th n F).f.r0, (doR K S D th n F).f.r1, (doR K S D th n F).f.r2, (doR K S D th n F).f.r3, (doR K S D th n F).f.r4, (doR K S D th n F).f.r5, (doR K S D th n F).f.r6, (doR K S D th n F).f.r7, (doR K S D th n F).f.r8, (doR K S D th n F).f.r9, (doR K S D th n F).f.r10, (doR K S D th n F).f.r11, (doR K S D th n F).f.r12, (doR K S D th n F).f.r13, (doR K S D th n F).f.r14] [(doR K S D th n F).f.r0, (doR K S D th n F).f.r1, (doR K S D th n F).f.r2, (doR K S D th n F).f.r3, (doR K S D th n F).f.r4, (doR K S D th n F).f.r5, (doR K S D th n F).f.r6, (doR K S D th n F).f.r7, (doR K S D th n F).f.r8, (doR K S D th n F).f.r9, (doR K S D th n F).f.r10, (doR K S D th n F).f.r11, (doR K S D th n F).f.r12, (doR K S D th n F).f.r13, (doR K S D th n F).f.r14] rfl rfl) rfl (EqFs.cons (xs := [_]) (ys := [_]) (by decide) rfl (EqOk.int underlying23 typeInfo23 isAgg23 sizeOf23) rfl (EqFs.cons (xs := [_]) (ys := [_]) (by decide) rfl (EqOk.bool underlying4 typeInfo4 isAgg4 sizeOf4) rfl (EqFs.cons (xs := [_]) (ys := [_]) (by decide) rfl (EqOk.bool underlying4 typeInfo4 isAgg4 sizeOf4) rfl (EqFs.cons (xs := [_]) (ys := [_]) (by decide) rfl (EqOk.bool underlying4 typeInfo4 isAgg4 sizeOf4) rfl .nil))))))) ?_
    refine .v rfl (.move rfl) ?_
    first | refine .part_dec (dj := 62) rfl (fun h1 => ?_) (fun h1 => ?_) | refine .part (dj := 62) rfl (fun h1 => ?_) (fun h1 => ?_)
    ·
     refine .want rfl rfl rfl (.move rfl) rfl ?_
     refine .want rfl rfl rfl (.move rfl) rfl ?_
     refine .want rfl rfl rfl (.eqlBool underlying4 rfl rfl) rfl ?_
     refine .v rfl (.pick_true rfl rfl) (.v rfl (.move rfl) ?_)
     first | refine .part_dec (dj := 67) rfl (fun h2 => ?_) (fun h2 => ?_) | refine .part (dj := 67) rfl (fun h2 => ?_) (fun h2 => ?_)
     ·
      refine .want rfl rfl rfl (.move rfl) rfl ?_
      refine .want rfl rfl rfl (.move rfl) rfl ?_
      refine .want rfl rfl rfl (.eql32 rfl rfl) rfl ?_
      refine .v rfl (.pick_true rfl rfl) (.v rfl (.move rfl) ?_)
      first | refine .part_dec (dj := 72) rfl (fun h3 => ?_) (fun h3 => ?_) | refine .part (dj := 72) rfl (fun h3 => ?_) (fun h3 => ?_)
      ·
       refine .want rfl rfl rfl (.move rfl) rfl ?_
       refine .want rfl rfl rfl (.move rfl) rfl ?_
       refine .eff rfl (fun fu_ li_ hk_ hs_ hl_ => ?_)
       refine .want rfl rfl (.call call16 (S_wardenlaw19_num) rfl .pk rfl (fun x74 hx74 => ?_))
       refine .nil (TS.back hk_ hs_ hl_ .pk ?_)
       refine .want rfl rfl rfl (.eql rfl rfl) rfl ?_
       refine .v rfl (.pick_true rfl rfl) (.v rfl (.move rfl) ?_)
       first | refine .part_dec (dj := 78) rfl (fun h4 => ?_) (fun h4 => ?_) | refine .part (dj := 78) rfl (fun h4 => ?_) (fun h4 => ?_)
       ·
        refine .want rfl rfl rfl (.move rfl) rfl ?_
        refine .want rfl rfl rfl (.move rfl) rfl ?_
        refine .eff rfl (fun fu_ li_ hk_ hs_ hl_ => ?_)
        refine .want rfl rfl (.call call42 (S_wardenlaw19_kept hR hK hb hn) rfl .pk rfl (fun x81 hx81 => ?_))
        refine .nil (TS.back hk_ hs_ hl_ .pk ?_)
        refine .v rfl (.pick_true rfl rfl) (.v rfl (.assign rfl) (.done (TQ.then (.ret ?_))))
        exact .ret results8 (.tmp rfl .nil) (x34, x53) rfl (hx34.same.trans hx53) .en
       ·
        exfalso
        simp at h4
      ·
       exfalso
       simp at h3
     ·
      exfalso
      simp at h2
    ·
     exfalso
     simp at h1
  ·
   refine .alloc zeroValue82 rfl rfl (fun b14 => ?_)
   refine .nil (TS.back hk_ hs_ hl_ .pk ?_)
   refine .eff rfl (fun fu_ li_ hk_ hs_ hl_ => ?_)
   refine .call call41 (S_wardenlaw19_docFile (F := F)) rfl .pk rfl (fun x52 hx52 => ?_)
   refine .nil (TS.back hk_ hs_ hl_ .pk ?_)
   refine .eff rfl (fun fu_ li_ hk_ hs_ hl_ => ?_)
   refine .call call40 (S_RDoD h hR hK1) rfl .pk rfl (fun x53 hx53 => ?_)
   refine .nil (TS.back hk_ hs_ hl_ .pk ?_)
   refine .v rfl (.move rfl) (.v rfl (.extract rfl rfl) (.v rfl (.extract rfl rfl) (.v rfl (.extract rfl rfl) (.v rfl (.extract rfl rfl) (.eff rfl (fun fu_ li_ hk_ hs_ hl_ => ?_))))))
   refine .storeAll (us := (doR K S D th n F).f.cells) sizeOf82 rfl rfl rfl rfl .up rfl ?_
   refine .nil (TS.back hk_ hs_ hl_ .pk ?_)
   refine .v rfl (.assign rfl) (.v rfl (.assign rfl) (.v rfl (.assign rfl) (.done (TQ.then (.seq (.draw (H := [.row b10 _ _, .row b14 _ _]) (.q 0 (.q 2 (.e 1 (.q 3 (.q 4 (.q 5 (.q 6 (.q 7 (.q 8 (.q 9 (.q 10 (.q 11 (.q 12 (.q 13 (.q 14 (.q 15 (.q 17 (.e 16 (.q 18 (.q 19 (.q 20 (.q 21 (.q 22 (.e 23 (.q 24 (.q 25 .done)))))))))))))))))))))))))) (by kernel_rfl) .pk (by kernel_rfl) (by kernel_rfl) (by kernel_rfl) ?_))))))
   refine .v rfl (.loadAgg (vs := (doR K S D th n F).f.cells) isAgg37 sizeOf37 rfl .tk (by rfl) (by rfl)) ?_
   refine .v rfl (.loadAgg (vs := (doR K S D th n F).f.cells) isAgg82 sizeOf82 rfl .tk (by rfl) (by rfl)) ?_
   refine .eff rfl (fun fu_ li_ hk_ hs_ hl_ => ?_)
   refine .call call41 (S_wardenlaw19_docFile (F := (doR K S D th n F).f)) rfl .pk rfl (fun x59 hx59 => ?_)
   refine .nil (TS.back hk_ hs_ hl_ .pk ?_)
   refine .v rfl (.eqlAg eqGuardType82 isAgg82 sizeOf82 typeInfo82 rfl rfl (EqOk.struct underlying82 stoodInHeld82 typeInfo82 isAgg82 sizeOf82 rfl rfl (EqFs.cons (xs := [_, _, _, _, _, _, _, _, _, _, _, _, _, _, _]) (ys := [_, _, _, _, _, _, _, _, _, _, _, _, _, _, _]) (by decide) rfl (EqOk.words underlying35 underlying23 typeInfo23 isAgg23 sizeOf23 typeInfo35 isAgg35 sizeOf35 [(doR K S D th n F).f.r0, (doR K S D th n F).f.r1, (doR K S D th n F).f.r2, (doR K S D th n F).f.r3, (doR K S D th n F).f.r4, (doR K S D th n F).f.r5, (doR K S D th n F).f.r6, (doR K S D th n F).f.r7, (doR K S D th n F).f.r8, (doR K S D th n F).f.r9, (doR K S D th n F).f.r10, (doR K S D th n F).f.r11, (doR K S D th n F).f.r12, (doR K S D th n F).f.r13, (doR K S D th n F).f.r14] [(doR K S D th n F).f.r0, (doR K S D th n F).f.r1, (doR K S D th n F).f.r2, (doR K S D th n F).f.r3, (doR K S D th n F).f.r4, (doR K S D th n F).f.r5, (doR K S D th n F).f.r6, (doR K S D th n F).f.r7, (doR K S D th n F).f.r8, (doR K S D th n F).f.r9, (doR K S D th n F).f.r10, (doR K S D th n F).f.r11, (doR K S D th n F).f.r12, (doR K S D th n F).f.r13, (doR K S D th n F).f.r14] rfl rfl) rfl (EqFs.cons (xs := [_]) (ys := [_]) (by decide) rfl (EqOk.int underlying23 typeInfo23 isAgg23 sizeOf23) rfl (EqFs.cons (xs := [_]) (ys := [_]) (by decide) rfl (EqOk.bool underlying4 typeInfo4 isAgg4 sizeOf4) rfl (EqFs.cons (xs := [_]) (ys := [_]) (by decide) rfl (EqOk.bool underlying4 typeInfo4 isAgg4 sizeOf4) rfl (EqFs.cons (xs := [_]) (ys := [_]) (by decide) rfl (EqOk.bool underlying4 typeInfo4 isAgg4 sizeOf4) rfl .nil))))))) ?_
   refine .v rfl (.move rfl) ?_
   first | refine .part_dec (dj := 62) rfl (fun h1 => ?_) (fun h1 => ?_) | refine .part (dj := 62) rfl (fun h1 => ?_) (fun h1 => ?_)
   ·
    refine .want rfl rfl rfl (.move rfl) rfl ?_
    refine .want rfl rfl rfl (.move rfl) rfl ?_
    refine .want rfl rfl rfl (.eqlBool underlying4 rfl rfl) rfl ?_
    refine .v rfl (.pick_true rfl rfl) (.v rfl (.move rfl) ?_)
    first | refine .part_dec (dj := 67) rfl (fun h2 => ?_) (fun h2 => ?_) | refine .part (dj := 67) rfl (fun h2 => ?_) (fun h2 => ?_)
    ·
     refine .want rfl rfl rfl (.move rfl) rfl ?_
     refine .want rfl rfl rfl (.move rfl) rfl ?_
     refine .want rfl rfl rfl (.eql32 rfl rfl) rfl ?_
     refine .v rfl (.pick_true rfl rfl) (.v rfl (.move rfl) ?_)
     first | refine .part_dec (dj := 72) rfl (fun h3 => ?_) (fun h3 => ?_) | refine .part (dj := 72) rfl (fun h3 => ?_) (fun h3 => ?_)
     ·
      refine .want rfl rfl rfl (.move rfl) rfl ?_
      refine .want rfl rfl rfl (.move rfl) rfl ?_
      refine .eff rfl (fun fu_ li_ hk_ hs_ hl_ => ?_)
      refine .want rfl rfl (.call call16 (S_wardenlaw19_num) rfl .pk rfl (fun x74 hx74 => ?_))
      refine .nil (TS.back hk_ hs_ hl_ .pk ?_)
      refine .want rfl rfl rfl (.eql rfl rfl) rfl ?_
      refine .v rfl (.pick_true rfl rfl) (.v rfl (.move rfl) ?_)
      first | refine .part_dec (dj := 78) rfl (fun h4 => ?_) (fun h4 => ?_) | refine .part (dj := 78) rfl (fun h4 => ?_) (fun h4 => ?_)
      ·
       refine .want rfl rfl rfl (.move rfl) rfl ?_
       refine .want rfl rfl rfl (.move rfl) rfl ?_
       refine .eff rfl (fun fu_ li_ hk_ hs_ hl_ => ?_)
       refine .want rfl rfl (.call call42 (S_wardenlaw19_kept hR hK hb hn) rfl .pk rfl (fun x81 hx81 => ?_))
       refine .nil (TS.back hk_ hs_ hl_ .pk ?_)
       refine .v rfl (.pick_true rfl rfl) (.v rfl (.assign rfl) (.done (TQ.then (.ret ?_))))
       exact .ret results8 (.tmp rfl .nil) (x34, x53) rfl (hx34.same.trans hx53) .en
      ·
       exfalso
       simp at h4
     ·
      exfalso
      simp at h3
    ·
     exfalso
     simp at h2
   ·
    exfalso
    simp at h1

def ActOk (l : List Value) : Prop := ∃ k a b c : Int, ∃ v : W, ∃ u : Value, l = [i64 k, i64 a, i64 b, i64 c, w32 v, u] ∧ isCell u = true
def CallOk (A : Assn) (l : List Value) : Prop := ∃ th : Int, ∃ n : W, ∃ F : File, ∃ sec : Bool, ∃ pg off : Int, ∃ u : Value, ∃ ws : List W, l = [i64 th, w32 n, w32 F.r0, w32 F.r1, w32 F.r2, w32 F.r3, w32 F.r4, w32 F.r5, w32 F.r6, w32 F.r7, w32 F.r8, w32 F.r9, w32 F.r10, w32 F.r11, w32 F.r12, w32 F.r13, w32 F.r14, w32 F.pc, .bool F.z, .bool F.n, .bool F.l, .bool sec, i64 pg, i64 off, u] ∧ isCell u = true ∧ Rd A u (w32s ws)

set_option maxHeartbeats 4000000 in
theorem S_wardenlaw19_SvcAll {A : Assn} (hK0 : Tab A 0) (hK1 : Tab A 1) {p : Int} {va : Value} {na : Nat} {ua : List Value} (hA : RdK A va 6 na ua) (hAc : ∀ i, i < na → ActOk (cutK ua 6 i)) {K : S8} {v : Value} {us : List Value} {S : List (List W)} (hR : Rd2 A v us S) (hb : ∀ s ∈ S, s.length ≤ 2000000) (hn : S.length ≤ 2000000) {vc : Value} {nc : Nat} {uc : List Value} (hC : RdK A vc 25 nc uc) (hCc : ∀ i, i < nc → CallOk A (cutK uc 25 i)) (hna : na ≤ 2000000) (hnc : nc ≤ 2000000) {b t : Int} {c : W} : Spec prog 3 [i64 p, va, K.val, v, vc, i64 b, i64 t, w32 c].toArray [A] (fun _ : Unit => True) (fun _ => .bool true) (fun _ => [A]) := by
 refine Spec.body func3 rfl ntmps3 rfl (fun σ R => ?_)
 refine .seq (.region (.box (vs := [_, _, _, _, _, _, _, _]) rfl rfl rfl (fun b10 => ?_)))
 refine .v (.assign rfl) (.nil (TQ.then (.seq (.shpK hA .tk (fun hSa => ?_)))))
 refine .shpK hC .tk (fun hSc => ?_)
 refine .region (.v (.move rfl) (.call call4 (S_wardenlaw19_begun) rfl .pk rfl (fun x21 hx21 => ?_)))
 refine .v (.assign rfl) (.nil (TQ.then (.seq (.seq ?_))))
 obtain ⟨s, m, d0, r0, m2⟩ := x21
 obtain ⟨D0, hD0⟩ : ∃ D0, Db.new (Mem.new (sizeN p) (sizeN 1)) = D0 := ⟨_, rfl⟩
 dsimp only
 rw [hD0]
 refine .region (.v (.move rfl) (.v (.eqlNil underlying27 rfl rfl) ?_))
 refine .v (.move rfl) ?_
 refine' TL.orG (k := 3) (dj := 24) (d := 27) rfl ?_ ?_ ?_
 rotate_left
 ·
  intro g27 hd
  first | replace g27 := of_decide_eq_false g27 | skip
  refine .want rfl rfl (.call call5 (S_wardenlaw19_costs) rfl .pk rfl (fun x25 hx25 => ?_))
  refine .want rfl rfl (.v (by first | exact Val.not_dec rfl | exact Val.not rfl) ?_)
  refine .v (.pick_false rfl rfl) (.nil ?_)
  exact .keepE (Sub.cons rfl (Sub.push rfl (Sub.push rfl (Sub.push rfl (Sub.pushSame hd Sub.rfl'))))) .en
 ·
  intro g27 hd
  refine .skip rfl rfl rfl (.skip rfl rfl rfl (.v (.pick_true rfl rfl) (.nil ?_)))
  exact .keepE (Sub.cons rfl (Sub.push rfl (Sub.push rfl (Sub.push rfl (Sub.pushSame hd Sub.rfl'))))) .en
 first | refine .boolOr ?_ | skip
 refine .nil (TQ.then ?_)
 first | refine .cond_dec rfl (fun h1 => ?_) (fun h1 => ?_) | refine .cond rfl (fun h1 => ?_) (fun h1 => ?_)
 ·
  exfalso
  simp at h1
 ·
  refine .skip (TQ.then (.seq (.seq (.region (.v (.assign rfl) (.nil (TQ.then (.block (.loop (X := {x : Nat × Nat × Nat × Db × Db // x.1 ≤ na ∧ x.2.2.2.1.same x.2.2.2.2}) (s0 := [(1, _), (3, _), (4, _), (5, _), (6, _), (7, _), (10, _), (17, _)]) (fun x => [(18, i64 x.1.1)]) (fun x => [.row s [ptr m, ptr x.1.2.1, ptr x.1.2.2.1] 60, DbA x.1.2.1 m x.1.2.2.2.1, RDbA x.1.2.2.1 m2 x.1.2.2.2.2, A, .row b10 [w32 K.a, w32 K.b, w32 K.c, w32 K.d, w32 K.e, w32 K.f, w32 K.g, w32 K.h] 24]) (fun x => na - x.1.1) ⟨(0, d0, r0, D0, D0), Nat.zero_le _, .refl⟩ .st .pk (fun x => ?_))))))))))
  refine .seq (.seq ?_)
  obtain ⟨⟨i, d1, r1, D1, T1⟩, hi, hs1⟩ := x
  dsimp only at hi hs1 ⊢
  refine .region (.v (.move rfl) (.v (.move rfl) (.v (.lenS underlying22 rfl hSa) ?_)))
  refine .v (.lss rfl rfl) (.nil (TQ.then ?_))
  first | refine .cond_dec rfl (fun h2 => ?_) (fun h2 => ?_) | refine .cond rfl (fun h2 => ?_) (fun h2 => ?_)
  ·
   obtain ⟨k1, a1, b1, c1, v1, u1, e1, hu1⟩ := hAc i (by omega)
   refine .skip (TQ.then (.seq (.block (.seq (.region (.v (.move rfl) (.v (.move rfl) (.v (.move rfl) (.v (.ixK underlying22 sizeOf33 hSa rfl rfl (by omega)) ?_)))))))))
   refine .v (.loadK isAgg33 sizeOf33 rfl (by omega) .tk hA e1) ?_
   refine .call call6 (S_wardenlaw19_State_act hs1 hK0 hK1 hu1) rfl .pk rfl (fun x39 hx39 => ?_)
   refine .v (by first | exact Val.not_dec rfl | exact Val.not rfl) ?_
   refine .nil (TQ.then ?_)
   first | refine .cond_dec rfl (fun h3 => ?_) (fun h3 => ?_) | refine .cond rfl (fun h3 => ?_) (fun h3 => ?_)
   ·
    exfalso
    simp at h3
   ·
    refine .skip (.blk_normal (TQ.then (.region (.v (.move rfl) (.v (.add64 rfl rfl (by omega)) ?_)))))
    refine .v (.assign rfl) (.nil ?_)
    obtain ⟨d2, r2, D2, T2⟩ := x39
    exact .next ⟨(i + 1, d2, r2, D2, T2), by dsimp only; omega, hx39⟩ (by dsimp only; omega) .st .en
  ·
   refine .exit (.then_exit (.then_exit (.blk_hit (TQ.then (.seq (.seq (.region (.v (.assign rfl) (.nil (TQ.then (.block (.loop (X := {x : Nat × Nat × Nat × Db × Db // x.1 ≤ nc ∧ x.2.2.2.1.same x.2.2.2.2}) (s0 := [(3, _), (4, _), (5, _), (6, _), (7, _), (10, _), (17, _)]) (fun x => [(19, i64 x.1.1)]) (fun x => [.row s [ptr m, ptr x.1.2.1, ptr x.1.2.2.1] 60, DbA x.1.2.1 m x.1.2.2.2.1, RDbA x.1.2.2.1 m2 x.1.2.2.2.2, A, .row b10 [w32 K.a, w32 K.b, w32 K.c, w32 K.d, w32 K.e, w32 K.f, w32 K.g, w32 K.h] 24]) (fun x => nc - x.1.1) ⟨(0, d1, r1, D1, T1), Nat.zero_le _, hs1⟩ .st .pk (fun x => ?_)))))))))))))
   refine .seq (.seq ?_)
   obtain ⟨⟨j, d3, r3, D3, T3⟩, hj, hs3⟩ := x
   dsimp only at hj hs3 ⊢
   refine .region (.v (.move rfl) (.v (.move rfl) (.v (.lenS underlying26 rfl hSc) ?_)))
   refine .v (.lss rfl rfl) (.nil (TQ.then ?_))
   first | refine .cond_dec rfl (fun h3 => ?_) (fun h3 => ?_) | refine .cond rfl (fun h3 => ?_) (fun h3 => ?_)
   ·
    obtain ⟨th, n1, F1, sec, pg, off, u1, ws, e1, hu1, hW⟩ := hCc j (by omega)
    refine .skip (TQ.then (.seq (.block (.seq (.region (.v (.move rfl) (.v (.move rfl) (.v (.move rfl) (.v (.ixK underlying26 sizeOf41 hSc rfl rfl (by omega)) ?_)))))))))
    refine .v (.loadK isAgg41 sizeOf41 rfl (by omega) .tk hC e1) ?_
    refine .call call7 (S_wardenlaw19_State_lay hs3 hW hu1) rfl .pk rfl (fun x52 hx52 => ?_)
    refine .nil (TQ.then (.seq ?_))
    obtain ⟨D4, T4⟩ := x52
    dsimp only at hx52 ⊢
    refine .draw (H := [.row b10 _ _, A]) (.q 0 (.q 1 (.q 2 (.q 3 (.q 4 (.q 5 (.q 6 (.e 7 (.q 8 (.q 9 (.q 10 (.e 11 (.q 12 (.q 13 .done)))))))))))))) (by kernel_rfl) .pk (by kernel_rfl) (by kernel_rfl) (by kernel_rfl) ?_
    refine .v rfl (.move rfl) (.v rfl (.loadAgg (vs := [_, _, _, _, _, _, _, _]) isAgg24 sizeOf24 rfl .tk (by rfl) (by rfl)) ?_)
    refine .v rfl (.move rfl) (.v rfl (.move rfl) (.v rfl (.move rfl) (.v rfl (.ixK underlying26 sizeOf41 hSc rfl rfl (by omega)) ?_)))
    refine .v rfl (.loadK isAgg41 sizeOf41 rfl (by omega) .tk hC e1) ?_
    refine .eff rfl (fun fu_ li_ hk_ hs_ hl_ => ?_)
    refine .call call8 (S_wardenlaw19_State_called hx52 hR hK0 hK1 hb hn hu1) rfl .pk rfl (fun x60 hx60 => ?_)
    refine .nil (TS.back hk_ hs_ hl_ .pk ?_)
    refine .v rfl (by first | exact Val.not_dec rfl | exact Val.not rfl) ?_
    refine .v rfl (.move rfl) ?_
    first | refine .part_dec (dj := 62) rfl (fun h4 => ?_) (fun h4 => ?_) | refine .part (dj := 62) rfl (fun h4 => ?_) (fun h4 => ?_)
    ·
     exfalso
     simp at h4
    ·
     refine .want rfl rfl rfl (.move rfl) rfl ?_
     refine .eff rfl (fun fu_ li_ hk_ hs_ hl_ => ?_)
     refine .want rfl rfl (.call call9 (S_wardenlaw19_State_lies hx60) rfl .pk rfl (fun x64 hx64 => ?_))
     refine .nil (TS.back hk_ hs_ hl_ .pk ?_)
     refine .want rfl rfl rfl (by first | exact Val.not_dec rfl | exact Val.not rfl) rfl ?_
     refine .v rfl (.pick_false rfl rfl) (.done (TQ.then ?_))
     first | refine .cond_dec rfl (fun h5 => ?_) (fun h5 => ?_) | refine .cond rfl (fun h5 => ?_) (fun h5 => ?_)
     ·
      exfalso
      simp at h5
     ·
      refine .skip (.blk_normal (TQ.then (.region (.v (.move rfl) (.v (.add64 rfl rfl (by omega)) ?_)))))
      refine .v (.assign rfl) (.nil ?_)
      exact .next ⟨(j + 1, d3, r3, x60.1, x60.2), by dsimp only; omega, hx60⟩ (by dsimp only; omega) .st .en
   ·
    refine .exit (.then_exit (.then_exit (.blk_hit (TQ.then (.seq (.region (.v (.move rfl) (.call call10 (S_svc_Cost) rfl .pk rfl (fun x68 hx68 => ?_)))))))))
    refine .v (.move rfl) (.call call11 (S_wardenref19_Cost) rfl .pk rfl (fun x70 hx70 => ?_))
    refine .v (.eql rfl rfl) (.v (.move rfl) ?_)
    refine' TL.andG (k := 10) (dj := 72) (d := 82) rfl ?_ ?_ ?_
    rotate_left
    ·
     intro g82 hd
     first | replace g82 := of_decide_eq_true g82 | skip
     refine .want rfl rfl (.v (.move rfl) (.want rfl rfl (.v (.move rfl) (.want rfl rfl (.v (.move rfl) (.want rfl rfl (.call call12 (S_svc_Draw hR) rfl .pk rfl (fun x76 hx76 => ?_))))))))
     refine .want rfl rfl (.v (.move rfl) (.want rfl rfl (.v (.move rfl) (.want rfl rfl (.v (.move rfl) (.want rfl rfl (.call call13 (S_wardenref19_Draw hR) rfl .pk rfl (fun x80 hx80 => ?_))))))))
     refine .want rfl rfl (.v (.eql32 rfl rfl) ?_)
     refine .v (.pick_true rfl rfl) (.nil ?_)
     exact .keepE (Sub.cons rfl (Sub.push rfl (Sub.push rfl (Sub.push rfl (Sub.push rfl (Sub.push rfl (Sub.push rfl (Sub.push rfl (Sub.push rfl (Sub.push rfl (Sub.push rfl (Sub.pushSame hd Sub.rfl')))))))))))) .en
    ·
     intro g82 hd
     refine .skip rfl rfl rfl (.skip rfl rfl rfl (.skip rfl rfl rfl (.skip rfl rfl rfl (.skip rfl rfl rfl (.skip rfl rfl rfl (.skip rfl rfl rfl (.skip rfl rfl rfl (.skip rfl rfl rfl (.v (.pick_false rfl rfl) (.nil ?_))))))))))
     exact .keepE (Sub.cons rfl (Sub.push rfl (Sub.push rfl (Sub.push rfl (Sub.push rfl (Sub.push rfl (Sub.push rfl (Sub.push rfl (Sub.push rfl (Sub.push rfl (Sub.push rfl (Sub.pushSame hd Sub.rfl')))))))))))) .en
    first | refine .boolAnd ?_ | skip
    refine .v (.assign rfl) (.nil (TQ.then (.ret ?_)))
    exact .ret results3 (.tmp rfl .nil) () (by simp [tup]) trivial .en
end Go.Wd
