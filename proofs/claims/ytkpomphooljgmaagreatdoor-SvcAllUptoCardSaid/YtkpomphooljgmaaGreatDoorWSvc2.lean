/- PROVED HERE: contracts of functions of the program, walked: each returns what the plain model says, for all items that its precondition names. No condition beyond each theorem's own. -/
import Derived.Test.YtkpomphooljgmaaGreatDoorProg
import Derived.Test.YtkpomphooljgmaaGreatDoorModel
import Derived.Test.YtkpomphooljgmaaGreatDoorPk
import Derived.Test.YtkpomphooljgmaaGreatDoorBase6
import Derived.Test.YtkpomphooljgmaaGreatDoorMSvc2
import Derived.Test.YtkpomphooljgmaaGreatDoorMSvc3
import Derived.Test.YtkpomphooljgmaaGreatDoorWSvc
namespace Go.Wd
open Go Go.Proofs Go.Proofs.Tryz
def callsL : List (W × Value) := [(1#32, .func (.func 101) #[] #[]), (2#32, .func (.func 102) #[] #[]), (3#32, .func (.func 103) #[] #[]), (4#32, .func (.func 104) #[] #[]), (5#32, .func (.func 105) #[] #[]), (6#32, .func (.func 106) #[] #[]), (7#32, .func (.func 107) #[] #[])]

set_option maxHeartbeats 400000 in
theorem S_svc_calls  : Spec prog 76 [].toArray [] (fun x : Nat => True) (fun x => .map (some x)) (fun x => [MapA x callsL]) := by
 refine Spec.body func76 rfl ntmps76 rfl (fun σ R => ?_)
 refine .seq (.region (.v (.assign rfl) (.nil (TQ.then (.seq (.region (.makeMap rfl (fun b1 => ?_))))))))
 refine .insertW (k := 1#32) underlying141 underlying23 rfl rfl rfl .up (by decide) ?_
 refine .insertW (k := 2#32) underlying141 underlying23 rfl rfl rfl .up (by decide) ?_
 refine .insertW (k := 3#32) underlying141 underlying23 rfl rfl rfl .up (by decide) ?_
 refine .insertW (k := 4#32) underlying141 underlying23 rfl rfl rfl .up (by decide) ?_
 refine .insertW (k := 5#32) underlying141 underlying23 rfl rfl rfl .up (by decide) ?_
 refine .insertW (k := 6#32) underlying141 underlying23 rfl rfl rfl .up (by decide) ?_
 refine .insertW (k := 7#32) underlying141 underlying23 rfl rfl rfl .up (by decide) ?_
 refine .v (.move rfl) (.v (.assign rfl) (.nil (TQ.then (.ret ?_))))
 exact .ret results76 (.tmp rfl .nil) b1 (by first | rfl | simp [tup, *]) trivial .en

theorem calls_some {n : W} (h : (findW n callsL 0).isSome = true) : n = 1#32 ∨ n = 2#32 ∨ n = 3#32 ∨ n = 4#32 ∨ n = 5#32 ∨ n = 6#32 ∨ n = 7#32 := Classical.byContradiction fun c => by
 simp only [not_or] at c
 obtain ⟨h1, h2, h3, h4, h5, h6, h7⟩ := c
 simp only [callsL, findW, if_neg h1, if_neg h2, if_neg h3, if_neg h4, if_neg h5, if_neg h6, if_neg h7, Option.isSome_none] at h
 exact absurd h (by decide)
theorem calls_none {n : W} (h : (findW n callsL 0).isSome = false) : ¬ (n = 1#32 ∨ n = 2#32 ∨ n = 3#32 ∨ n = 4#32 ∨ n = 5#32 ∨ n = 6#32 ∨ n = 7#32) := by
 rintro (rfl | rfl | rfl | rfl | rfl | rfl | rfl) <;> exact absurd h (by decide)
theorem calls_spec {c d m : Nat} {D : Db} {sp tb : Int} {F : File} {K : S8} {v : Value} {S : List (List W)} {us : List Value} {A : Assn} (hR : Rd2 A v us S) (hK0 : Tab A 0) {n : W} (h : (findW n callsL 0).isSome = true) :
  ∃ (f : Nat) (r : Res), ((findW n callsL 0).map (·.2)).getD .nilFunc = .func (.func f) ([] : List Value).toArray ([] : List Value).toArray ∧ (∀ args w, (callFunc f args).run prog w = .ok (.enter f args) w) ∧ callR n K S D sp tb F = some r ∧
   Spec prog f (([] : List Value) ++ [ptr c] ++ []).toArray [DbA d m D, AskR c d sp tb F K v, A] (fun x : Db => D.near x r.db 1031) (fun _ => w32 r.code) (fun x => [DbA d m x, AskR c d sp tb r.f K v, A]) := by
 rcases calls_some h with hn | hn | hn | hn | hn | hn | hn
 ·
  subst hn
  exact ⟨101, _, rfl, call101, rfl, (S_svc_asked_attest (K := K)).wide .pk (fun x hx => Db.near.le hx (by decide)) (fun x => .en)⟩
 ·
  subst hn
  exact ⟨102, _, rfl, call102, rfl, (S_svc_asked_verify (K := K) (F := F)).wide .pk (fun x hx => Db.near.le hx (by decide)) (fun x => .en)⟩
 ·
  subst hn
  exact ⟨103, _, rfl, call103, rfl, (S_svc_asked_mapIn (F := F)).wide .pk (fun x hx => Db.near.le hx (by decide)) (fun x => .en)⟩
 ·
  subst hn
  exact ⟨104, _, rfl, call104, rfl, (S_svc_asked_unmap (F := F)).wide .pk (fun x hx => Db.near.le hx (by decide)) (fun x => .en)⟩
 ·
  subst hn
  exact ⟨105, _, rfl, call105, rfl, (S_svc_asked_addTable (F := F)).wide .pk (fun x hx => Db.near.le hx (by decide)) (fun x => .en)⟩
 ·
  subst hn
  exact ⟨106, _, rfl, call106, rfl, (S_svc_asked_random (F := F) hR).wide .pk (fun x hx => Db.near.le hx (by decide)) (fun x => .en)⟩
 ·
  subst hn
  exact ⟨107, _, rfl, call107, rfl, (S_svc_calls_1 (F := F)).wide .pk (fun x hx => Db.near.le hx (by decide)) (fun x => .en)⟩

theorem pl_138_x : Places prog 138 [(0, 22), (22, 8), (30, 1)] := ⟨_, underlying138, fun w => by simp [sizeOf136, sizeOf24, sizeOf25]⟩

theorem fo_37_0_WSvc2 : FieldOff prog 37 0 0 := FieldOff.of 35 15 underlying37 rfl sizeOf35 rfl
theorem fo_107_0_WSvc2 : FieldOff prog 107 0 0 := FieldOff.of 64 1 underlying107 rfl sizeOf64 rfl
theorem fo_107_1_WSvc2 : FieldOff prog 107 1 1 := FieldOff.of 3 1 underlying107 rfl sizeOf3 rfl
theorem fo_107_3_WSvc2 : FieldOff prog 107 3 3 := FieldOff.of 69 1 underlying107 rfl sizeOf69 rfl
theorem fo_136_3_WSvc2 : FieldOff prog 136 3 3 := FieldOff.of 37 19 underlying136 rfl sizeOf37 rfl
theorem fo_138_0_WSvc2 : FieldOff prog 138 0 0 := FieldOff.of 136 22 underlying138 rfl sizeOf136 rfl
theorem pl_37_WSvc2 : Places prog 37 [(0, 15), (15, 1), (16, 1), (17, 1), (18, 1)] := ⟨_, underlying37, fun w => by simp [sizeOf4, sizeOf23, sizeOf35]⟩
theorem pl_136_WSvc2 : Places prog 136 [(0, 1), (1, 1), (2, 1), (3, 19)] := ⟨_, underlying136, fun w => by simp [sizeOf3, sizeOf37, sizeOf52]⟩
set_option maxHeartbeats 2000000 in
theorem S_svc_Do {d m : Nat} {D : Db} {th : Int} {n : W} {F : File} {K : S8} {v : Value} {S : List (List W)} {us : List Value} {A : Assn} (hR : Rd2 A v us S) (hK0 : Tab A 0) : Spec prog 38 [ptr d, K.val, v, i64 th, w32 n, F.val].toArray [DbA d m D, A] (fun x : Db => D.near x (doR K S D th n F).db 1032) (fun x => .tuple #[(doR K S D th n F).f.val, .bool (doR K S D th n F).out, w32 (doR K S D th n F).val, i64 (doR K S D th n F).err]) (fun x => [DbA d m x, A]) := by
 refine Spec.body func38 rfl ntmps38 rfl (fun σ R => ?_)
 refine .shpR hR.out .tk (fun hSv => ?_)
 have hvc := isCell_cells hSv.cell
 refine .seq (.region (.box (vs := [_, _, _, _, _, _, _, _]) rfl rfl rfl (fun b7 => ?_)))
 refine .box rfl rfl rfl (fun b11 => ?_)
 refine .alloc zeroValue37 rfl rfl (fun b12 => ?_)
 refine .v (.assign rfl) (.v (.assign (v := w32 0#32) rfl) (.v (.assign rfl) (.nil (TQ.then (.seq (.region (.v (.move rfl) (.v (.move rfl) (.call call74 (S_EntryD) rfl .pk rfl (fun x27 hx27 => ?_))))))))))
 refine .v (.move rfl) (.v (.extract rfl rfl) (.v (.extract rfl rfl) (.alloc zeroValue107 rfl rfl (fun b16 => ?_))))
 refine .storeAll (us := [_, _, _, _, _]) sizeOf107 rfl rfl rfl rfl .up rfl ?_
 refine .v (.assign rfl) (.nil (TQ.then (.seq (.seq (.region (.v (.move rfl) (.v (.neq rfl rfl) (.v (.move rfl) ?_))))))))
 refine' TL.orG (k := 4) (dj := 32) (d := 36) rfl ?_ ?_ ?_
 rotate_left
 ·
  intro g36 hd
  first | replace g36 := of_decide_eq_false g36 | skip
  refine .want rfl rfl (.v (.field fo_107_0_WSvc2 rfl) (.want rfl rfl (.v (.load isAgg64 rfl .tk (by rfl)) ?_)))
  refine .want rfl rfl (.v (.neq rfl rfl) (.v (.pick_false rfl rfl) (.nil ?_)))
  exact .keep (Sub.cons rfl (Sub.push rfl (Sub.push rfl (Sub.push rfl (Sub.push rfl (Sub.pushSame hd Sub.rfl'))))))
 ·
  intro g36 hd
  refine .skip rfl rfl rfl (.skip rfl rfl rfl (.skip rfl rfl rfl (.v (.pick_true rfl rfl) (.nil ?_))))
  exact .keep (Sub.cons rfl (Sub.push rfl (Sub.push rfl (Sub.push rfl (Sub.push rfl (Sub.pushSame hd Sub.rfl'))))))
 first | refine .boolOr ?_ | skip
 refine .nil (TQ.then ?_)
 first | refine .cond_dec rfl (fun h1 => ?_) (fun h1 => ?_) | refine .cond rfl (fun h1 => ?_) (fun h1 => ?_)
 ·
  refine .seq (.region (.v (.buildS (zs := [.int .u32 0, .int .u32 0, .int .u32 0, .int .u32 0, .int .u32 0, .int .u32 0, .int .u32 0, .int .u32 0, .int .u32 0, .int .u32 0, .int .u32 0, .int .u32 0, .int .u32 0, .int .u32 0, .int .u32 0, .int .u32 0, .bool false, .bool false, .bool false]) (cs := [_, _, _, _, _, _, _, _, _, _, _, _, _, _, _, _, _, _, _]) zeroValue37 rfl pl_37_WSvc2 (.nil rfl)) ?_))
  refine .storeAll sizeOf37 rfl rfl rfl rfl .up rfl ?_
  refine .v (.assign rfl) (.v (.assign (v := w32 0#32) rfl) (.v (.assign rfl) (.nil (TQ.then (.ret (.then_ret ?_))))))
  exact .ret results38 (.agg isAgg37 sizeOf37 rfl .tk (by rfl) (by rfl) (.tmp rfl (.tmp rfl (.tmp rfl .nil)))) D (by rw [doR_bad (.inl h1)]; rfl) (by rw [doR_bad (.inl h1)]; exact .refl) .en
 ·
  refine .skip (TQ.then (.seq (.region (.v (.move rfl) (.v (.field fo_107_1_WSvc2 rfl) (.v (.load isAgg3 rfl .tk (by rfl)) ?_))))))
  refine .call call74 (S_EntryD) rfl .pk rfl (fun x42 hx42 => ?_)
  refine .v (.move rfl) (.v (.extract rfl rfl) (.v (.extract rfl rfl) (.alloc zeroValue107 rfl rfl (fun b18 => ?_))))
  refine .storeAll (us := [_, _, _, _, _]) sizeOf107 rfl rfl rfl rfl .up rfl ?_
  refine .v (.assign rfl) (.nil (TQ.then (.seq (.seq (.region (.v (.move rfl) (.v (.neq rfl rfl) (.v (.move rfl) ?_))))))))
  refine' TL.orG (k := 4) (dj := 47) (d := 51) rfl ?_ ?_ ?_
  rotate_left
  ·
   intro g51 hd
   first | replace g51 := of_decide_eq_false g51 | skip
   refine .want rfl rfl (.v (.field fo_107_0_WSvc2 rfl) (.want rfl rfl (.v (.load isAgg64 rfl .tk (by rfl)) ?_)))
   refine .want rfl rfl (.v (.neq rfl rfl) (.v (.pick_false rfl rfl) (.nil ?_)))
   exact .keep (Sub.cons rfl (Sub.push rfl (Sub.push rfl (Sub.push rfl (Sub.push rfl (Sub.pushSame hd Sub.rfl'))))))
  ·
   intro g51 hd
   refine .skip rfl rfl rfl (.skip rfl rfl rfl (.skip rfl rfl rfl (.v (.pick_true rfl rfl) (.nil ?_))))
   exact .keep (Sub.cons rfl (Sub.push rfl (Sub.push rfl (Sub.push rfl (Sub.push rfl (Sub.pushSame hd Sub.rfl'))))))
  first | refine .boolOr ?_ | skip
  refine .v (.move rfl) ?_
  refine' TL.orG (k := 4) (dj := 52) (d := 56) rfl ?_ ?_ ?_
  rotate_left
  ·
   intro g56 hd
   first | replace g56 := of_decide_eq_false g56 | skip
   refine .want rfl rfl (.v (.field fo_107_3_WSvc2 rfl) (.want rfl rfl (.v (.load isAgg69 rfl .tk (by rfl)) ?_)))
   refine .want rfl rfl (.v (.neq rfl rfl) (.v (.pick_false rfl rfl) (.nil ?_)))
   exact .keep (Sub.cons rfl (Sub.push rfl (Sub.push rfl (Sub.push rfl (Sub.push rfl (Sub.pushSame hd Sub.rfl'))))))
  ·
   intro g56 hd
   refine .skip rfl rfl rfl (.skip rfl rfl rfl (.skip rfl rfl rfl (.v (.pick_true rfl rfl) (.nil ?_))))
   exact .keep (Sub.cons rfl (Sub.push rfl (Sub.push rfl (Sub.push rfl (Sub.push rfl (Sub.pushSame hd Sub.rfl'))))))
  first | refine .boolOr ?_ | skip
  refine .nil (TQ.then ?_)
  first | refine .cond_dec rfl (fun h2 => ?_) (fun h2 => ?_) | refine .cond rfl (fun h2 => ?_) (fun h2 => ?_)
  ·
   refine .seq (.region (.v (.buildS (zs := [.int .u32 0, .int .u32 0, .int .u32 0, .int .u32 0, .int .u32 0, .int .u32 0, .int .u32 0, .int .u32 0, .int .u32 0, .int .u32 0, .int .u32 0, .int .u32 0, .int .u32 0, .int .u32 0, .int .u32 0, .int .u32 0, .bool false, .bool false, .bool false]) (cs := [_, _, _, _, _, _, _, _, _, _, _, _, _, _, _, _, _, _, _]) zeroValue37 rfl pl_37_WSvc2 (.nil rfl)) ?_))
   refine .storeAll sizeOf37 rfl rfl rfl rfl .up rfl ?_
   refine .v (.assign rfl) (.v (.assign (v := w32 0#32) rfl) (.v (.assign rfl) (.nil (TQ.then (.ret (.then_ret ?_))))))
   exact .ret results38 (.agg isAgg37 sizeOf37 rfl .tk (by rfl) (by rfl) (.tmp rfl (.tmp rfl (.tmp rfl .nil)))) D (by rw [doR_bad (.inr (.inl h2))]; rfl) (by rw [doR_bad (.inr (.inl h2))]; exact .refl) .en
  ·
   refine .skip (TQ.then (.seq (.region (.v (.move rfl) (.v (.field fo_107_1_WSvc2 rfl) (.v (.load isAgg3 rfl .tk (by rfl)) ?_))))))
   refine .call call75 (S_space_Table) rfl .pk rfl (fun x62 hx62 => ?_)
   refine .v (.move rfl) (.v (.extract rfl rfl) (.v (.extract rfl rfl) (.v (.assign rfl) (.v (.assign rfl) (.nil (TQ.then (.seq (.seq (.region (.v (.move rfl) (.v (.neq rfl rfl) (.nil (TQ.then ?_)))))))))))))
   first | refine .cond_dec rfl (fun h3 => ?_) (fun h3 => ?_) | refine .cond rfl (fun h3 => ?_) (fun h3 => ?_)
   ·
    refine .seq (.region (.v (.buildS (zs := [.int .u32 0, .int .u32 0, .int .u32 0, .int .u32 0, .int .u32 0, .int .u32 0, .int .u32 0, .int .u32 0, .int .u32 0, .int .u32 0, .int .u32 0, .int .u32 0, .int .u32 0, .int .u32 0, .int .u32 0, .int .u32 0, .bool false, .bool false, .bool false]) (cs := [_, _, _, _, _, _, _, _, _, _, _, _, _, _, _, _, _, _, _]) zeroValue37 rfl pl_37_WSvc2 (.nil rfl)) ?_))
    refine .storeAll sizeOf37 rfl rfl rfl rfl .up rfl ?_
    refine .v (.assign rfl) (.v (.assign (v := w32 0#32) rfl) (.v (.assign rfl) (.nil (TQ.then (.ret (.then_ret ?_))))))
    exact .ret results38 (.agg isAgg37 sizeOf37 rfl .tk (by rfl) (by rfl) (.tmp rfl (.tmp rfl (.tmp rfl .nil)))) (D.tk x62) (by rw [doR_bad (.inr (.inr h3))]; rfl) (by rw [doR_bad (.inr (.inr h3))]; exact ((Db.near.refl (K := 0)).tk hx62).le (by decide)) .en
   ·
    have hnb : ¬ doBad D th := fun c => c.elim h1 (fun c => c.elim h2 h3)
    refine .skip (TQ.then (.seq (.seq (.region (.v (.move rfl) (.v (.eql32 (b := 0#32) rfl rfl) ?_))))))
    refine .nil (TQ.then ?_)
    first | refine .cond_dec rfl (fun h4 => ?_) (fun h4 => ?_) | refine .cond rfl (fun h4 => ?_) (fun h4 => ?_)
    ·
     refine .seq (.draw (H := [.row b11 _ _]) (.q 1 (.q 2 (.b 0 (.b 3 (.e 4 (.q 5 (.q 6 (.q 7 .done)))) 4 (.q 5 (.e 3 (.q 6 (.q 7 .done))))) 3 (.e 0 (.e 4 (.q 5 (.q 6 (.q 7 .done)))))))) (by kernel_rfl) .pk (by kernel_rfl) (by kernel_rfl) (by kernel_rfl) ?_)
     refine .v rfl (.field fo_37_0_WSvc2 rfl) (.v rfl (.ixArr1 underlying35 sizeOf23 rfl rfl (by decide)) ?_)
     refine .both rfl rfl (fun fu_ li_ hk_ hs_ hl_ => ?_) (fun fu_ li_ hk_ hs_ hl_ => ?_)
     ·
      refine .v (.loadAgg (vs := F.cells) isAgg37 sizeOf37 rfl .tk (by rfl) (by rfl)) ?_
      refine .nil (TS.back hk_ hs_ hl_ .pk ?_)
      refine .both rfl rfl (fun fu_ li_ hk_ hs_ hl_ => ?_) (fun fu_ li_ hk_ hs_ hl_ => ?_)
      ·
       refine .v (.load isAgg23 rfl .tk (by rfl)) ?_
       refine .nil (TS.back hk_ hs_ hl_ .pk ?_)
       refine .eff rfl (fun fu_ li_ hk_ hs_ hl_ => ?_)
       refine .storeAll sizeOf37 rfl rfl rfl rfl .up rfl ?_
       refine .nil (TS.back hk_ hs_ hl_ .pk ?_)
       refine .v rfl (.assign rfl) (.v rfl (.assign rfl) (.v rfl (.assign rfl) (.done (TQ.then (.ret (.then_ret ?_))))))
       exact .ret results38 (.agg isAgg37 sizeOf37 rfl .tk (by rfl) (by rfl) (.tmp rfl (.tmp rfl (.tmp rfl .nil)))) (D.tk x62) (by rw [doR_exit hnb h4]; rfl) (by rw [doR_exit hnb h4]; exact ((Db.near.refl (K := 0)).tk hx62).le (by decide)) .en
      ·
       refine .storeAll sizeOf37 rfl rfl rfl rfl .up rfl ?_
       refine .nil (TS.back hk_ hs_ hl_ .pk ?_)
       refine .v rfl (.assign rfl) (.eff rfl (fun fu_ li_ hk_ hs_ hl_ => ?_))
       refine .v (.load isAgg23 rfl .tk (by rfl)) ?_
       refine .nil (TS.back hk_ hs_ hl_ .pk ?_)
       refine .v rfl (.assign rfl) (.v rfl (.assign rfl) (.done (TQ.then (.ret (.then_ret ?_)))))
       exact .ret results38 (.agg isAgg37 sizeOf37 rfl .tk (by rfl) (by rfl) (.tmp rfl (.tmp rfl (.tmp rfl .nil)))) (D.tk x62) (by rw [doR_exit hnb h4]; rfl) (by rw [doR_exit hnb h4]; exact ((Db.near.refl (K := 0)).tk hx62).le (by decide)) .en
     ·
      refine .v (.load isAgg23 rfl .tk (by rfl)) ?_
      refine .nil (TS.back hk_ hs_ hl_ .pk ?_)
      refine .eff rfl (fun fu_ li_ hk_ hs_ hl_ => ?_)
      refine .v (.loadAgg (vs := F.cells) isAgg37 sizeOf37 rfl .tk (by rfl) (by rfl)) ?_
      refine .nil (TS.back hk_ hs_ hl_ .pk ?_)
      refine .eff rfl (fun fu_ li_ hk_ hs_ hl_ => ?_)
      refine .storeAll sizeOf37 rfl rfl rfl rfl .up rfl ?_
      refine .nil (TS.back hk_ hs_ hl_ .pk ?_)
      refine .v rfl (.assign rfl) (.v rfl (.assign rfl) (.v rfl (.assign rfl) (.done (TQ.then (.ret (.then_ret ?_))))))
      exact .ret results38 (.agg isAgg37 sizeOf37 rfl .tk (by rfl) (by rfl) (.tmp rfl (.tmp rfl (.tmp rfl .nil)))) (D.tk x62) (by rw [doR_exit hnb h4]; rfl) (by rw [doR_exit hnb h4]; exact ((Db.near.refl (K := 0)).tk hx62).le (by decide)) .en
    ·
     refine .skip (TQ.then (.seq (.region (.v (.assign (v := w32 15#32) rfl) (.nil (TQ.then (.seq (.region (.v (.move rfl) (.v (.field fo_107_1_WSvc2 rfl) (.v (.load isAgg3 rfl .tk (by rfl)) ?_)))))))))))
     refine .v (.move rfl) (.v (.loadAgg (vs := F.cells) isAgg37 sizeOf37 rfl .tk (by rfl) (by rfl)) ?_)
     refine .v (.buildS (zs := [.pointer none, .int .i64 0, .int .i64 0, .int .u32 0, .int .u32 0, .int .u32 0, .int .u32 0, .int .u32 0, .int .u32 0, .int .u32 0, .int .u32 0, .int .u32 0, .int .u32 0, .int .u32 0, .int .u32 0, .int .u32 0, .int .u32 0, .int .u32 0, .int .u32 0, .bool false, .bool false, .bool false]) (cs := [_, _, _, _, _, _, _, _, _, _, _, _, _, _, _, _, _, _, _, _, _, _]) zeroValue136 rfl pl_136_WSvc2 (.cons (us := [_]) rfl rfl rfl rfl rfl (.cons (us := [_]) rfl rfl rfl rfl rfl (.cons (us := [_]) rfl rfl rfl rfl rfl (.cons (us := [_, _, _, _, _, _, _, _, _, _, _, _, _, _, _, _, _, _, _]) rfl rfl rfl rfl rfl (.nil rfl)))))) ?_
     refine .v (.loadAgg (vs := [_, _, _, _, _, _, _, _]) isAgg24 sizeOf24 rfl .tk (by rfl) (by rfl)) ?_
     refine .v (.move rfl) (.v (.buildS (zs := [.pointer none, .int .i64 0, .int .i64 0, .int .u32 0, .int .u32 0, .int .u32 0, .int .u32 0, .int .u32 0, .int .u32 0, .int .u32 0, .int .u32 0, .int .u32 0, .int .u32 0, .int .u32 0, .int .u32 0, .int .u32 0, .int .u32 0, .int .u32 0, .int .u32 0, .bool false, .bool false, .bool false, .int .u32 0, .int .u32 0, .int .u32 0, .int .u32 0, .int .u32 0, .int .u32 0, .int .u32 0, .int .u32 0, .slice none 0 0]) (cs := [_, _, _, _, _, _, _, _, _, _, _, _, _, _, _, _, _, _, _, _, _, _, _, _, _, _, _, _, _, _, _]) zeroValue138 rfl pl_138_x (.cons (us := [_, _, _, _, _, _, _, _, _, _, _, _, _, _, _, _, _, _, _, _, _, _]) rfl rfl rfl rfl rfl (.cons (us := [_, _, _, _, _, _, _, _]) rfl rfl rfl rfl rfl (.cons (us := [_]) rfl hvc rfl rfl rfl (.nil rfl))))) ?_)
     refine .box rfl rfl rfl (fun b83 => ?_)
     refine .v (.assign rfl) (.nil (TQ.then (.seq (.seq ?_))))
     skip
     refine .region (.call call76 (S_svc_calls) rfl .pk rfl (fun x85 hx85 => ?_))
     refine .v (.move rfl) (.v (.lookupW (k := n) (es := callsL) (z := .nilFunc) underlying141 underlying23 zeroValue139 rfl rfl .tk) ?_)
     refine .v (.move rfl) (.v (.extract rfl rfl) (.v (.extract rfl rfl) (.v (.assign rfl) (.v (.assign rfl) (.nil (TQ.then (.seq (.region (.v (.move rfl) (.nil (TQ.then ?_)))))))))))
     first | refine .cond_dec rfl (fun h5 => ?_) (fun h5 => ?_) | refine .cond rfl (fun h5 => ?_) (fun h5 => ?_)
     ·
      obtain ⟨f, r, hv, hc, hr, hs⟩ := calls_spec (c := b83) (d := d) (m := m) (D := D.tk x62) (sp := (D.get th).1.own) (tb := (tableD D (D.get th).1.own).1) (F := F) (K := K) hR hK0 h5
      rw [hv]
      obtain ⟨r2, hr2, hrs⟩ := callR_same (D := D.tk x62) (T := D) ((Db.near.refl (D := D) (K := 0)).tk (Nat.le_refl x62)).same hr
      have hdo := doR_call hnb h4 hr2
      refine .region (.v (.move rfl) (.v (.move rfl) (.callV (f := f) (fs := []) (cs := []) rfl hc rfl hs .pk rfl (fun x93 hx93 => ?_))))
      refine .v (.assign rfl) (.nil (TQ.then (.seq (.region (.v (.move rfl) (.v (.move rfl) (.v (.nilCheck rfl) (.v (.field fo_138_0_WSvc2 rfl) (.v (.field fo_136_3_WSvc2 rfl) (.v (.field fo_37_0_WSvc2 rfl) (.v (.ixArr1 underlying35 sizeOf23 rfl rfl (by omega)) ?_)))))))))))
      refine .store sizeOf23 rfl rfl rfl .up (by rfl) ?_
      refine .nil (TQ.then (.seq (.region (.v (.move rfl) (.v (.nilCheck rfl) (.v (.field fo_138_0_WSvc2 rfl) (.v (.field fo_136_3_WSvc2 rfl) (.v (.loadAgg isAgg37 sizeOf37 rfl .tk (by rfl) (by rfl)) ?_))))))))
      refine .storeAll sizeOf37 rfl rfl rfl rfl .up rfl ?_
      refine .v (.assign rfl) (.v (.assign (v := w32 0#32) rfl) (.v (.assign rfl) (.nil (TQ.then (.ret ?_)))))
      exact .ret results38 (.agg isAgg37 sizeOf37 rfl .tk (by rfl) (by rfl) (.tmp rfl (.tmp rfl (.tmp rfl .nil)))) x93 (by rw [hdo]; rw [← hrs.f, ← hrs.code]; rfl) (by rw [hdo]; exact (((Db.near.refl (D := D) (K := 0)).tk hx62).comp hx93 hrs.db).le (by decide)) .en
     ·
      have hdo := doR_none hnb h4 (callR_none (K := K) (S := S) (D := D) (sp := (D.get th).1.own) (tb := (tableD D (D.get th).1.own).1) (F := F) (calls_none h5))
      refine .skip (TQ.then (.seq (.region (.v (.move rfl) (.v (.move rfl) (.v (.nilCheck rfl) (.v (.field fo_138_0_WSvc2 rfl) (.v (.field fo_136_3_WSvc2 rfl) (.v (.field fo_37_0_WSvc2 rfl) (.v (.ixArr1 underlying35 sizeOf23 rfl rfl (by omega)) ?_))))))))))
      refine .store sizeOf23 rfl rfl rfl .up (by rfl) ?_
      refine .nil (TQ.then (.seq (.region (.v (.move rfl) (.v (.nilCheck rfl) (.v (.field fo_138_0_WSvc2 rfl) (.v (.field fo_136_3_WSvc2 rfl) (.v (.loadAgg isAgg37 sizeOf37 rfl .tk (by rfl) (by rfl)) ?_))))))))
      refine .storeAll sizeOf37 rfl rfl rfl rfl .up rfl ?_
      refine .v (.assign rfl) (.v (.assign (v := w32 0#32) rfl) (.v (.assign rfl) (.nil (TQ.then (.ret ?_)))))
      exact .ret results38 (.agg isAgg37 sizeOf37 rfl .tk (by rfl) (by rfl) (.tmp rfl (.tmp rfl (.tmp rfl .nil)))) (D.tk x62) (by rw [hdo]; rfl) (by rw [hdo]; exact ((Db.near.refl (D := D) (K := 0)).tk hx62).le (by decide)) .en
end Go.Wd
