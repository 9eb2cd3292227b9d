/- PROVED HERE: contracts of functions of the program, walked: each returns what the plain model says, for all items that its precondition names. No condition beyond each theorem's own. -/
import Derived.Test.YtkpomphooljgmaaGreatDoorProg
import Derived.Test.YtkpomphooljgmaaGreatDoorModel
import Derived.Test.YtkpomphooljgmaaGreatDoorPk
import Derived.Test.YtkpomphooljgmaaGreatDoorMMac
import Derived.Test.YtkpomphooljgmaaGreatDoorWSha2
namespace Go.Wd
open Go Go.Proofs Go.Proofs.Tryz
set_option maxHeartbeats 400000 in
theorem S_word_Bytes {us : List W} {u : Value} {A : Assn} (hR : Rd A u (w32s us)) (hu : us.length ≤ 1099511627776) : Spec prog 190 [u].toArray [A] (fun x : Value => isCell x = true) (fun x => x) (fun x => [GSl 5 1 x (4 * us.length) (b8s (bytesOf us)), A]) := by
 refine Spec.body func190 rfl ntmps190 rfl (fun σ R => ?_)
 refine .seq (.region (.v (.assign rfl) (.nil (TQ.then (.seq (.shpR hR .tk (fun hSu => ?_)))))))
 rw [w32s_length] at hSu
 refine .region (.v (.move rfl) (.v (.lenS underlying31 rfl hSu) ?_))
 refine .v (.mul64 rfl rfl (by omega)) ?_
 refine .make underlying251 typeInfo5 rfl rfl rfl rfl rfl (by omega) (by simp only [t5]; omega) (by omega) rfl (fun b9 => ?_)
 refine .ent (GSl.row (E := 5) (k := 1) (n := 0) (cap := (4 * (us.length : Int)).toNat) (l := []) rfl (by omega) (by simp only [maxLen]; omega) (by simp)) ?_
 refine .v (.assign (v := .slice (some ⟨b9, 0, none⟩) 0 (4 * (us.length : Int)).toNat) rfl) (.nil (TQ.then (.seq (.seq (.region (.v (.move rfl) (.v (.lenS underlying31 rfl hSu) ?_)))))))
 refine .v (.move rfl) (.nil (TQ.then (.block (.loop (X := {x : Nat × Value // x.1 ≤ us.length ∧ isCell x.2 = true}) (s0 := [(0, _), (11, _)]) (fun x => [(3, x.1.2), (12, i64 x.1.1)]) (fun x => [GSl 5 1 x.1.2 (4 * x.1.1) (b8s (bytesOf (us.take x.1.1)))]) (fun x => us.length - x.1.1) ⟨(0, .slice (some ⟨b9, 0, none⟩) 0 (4 * (us.length : Int)).toNat), Nat.zero_le _, rfl⟩ .st .pk (fun x => ?_)))))
 refine .seq (.region (.v (.lss rfl rfl) (.nil (TQ.then (.seq ?_)))))
 first | refine .cond_dec rfl (fun h1 => ?_) (fun h1 => ?_) | refine .cond rfl (fun h1 => ?_) (fun h1 => ?_)
 ·
  obtain ⟨⟨i, v1⟩, hi, hv1⟩ := x
  dsimp only at hi hv1 h1 ⊢
  have hlt : i < us.length := by omega
  refine .openRd (v := u) .tk hR (fun hv3 hv4 => ?_) (fun g off cp hv3 hcp => ?_)
  ·
   exfalso; have h0 : us.length = 0 := by have h := congrArg List.length hv4; rwa [w32s_length] at h
   omega
  subst hv3
  rw [w32s_length] at hcp
  refine .skip (TQ.then (.seq (.block (.seq (.region (.v (.move rfl) (.v (.assign rfl) (.nil (TQ.then (.seq (.region (.v (.move rfl) (.v (.move rfl) (.v (.ixSlice1 underlying31 sizeOf23 rfl rfl (by rw [w32s_length]; omega)) ?_))))))))))))))
  refine .v (.loadRd (i := i) isAgg23 rfl .tk hR (w32s_get (wAt_get hlt)) (by omega)) ?_
  refine .v (.assign rfl) (.nil (TQ.then (.region (.v (.move rfl) (.v (.move rfl) (.v (.shr32 (k := 24) (by decide) rfl rfl) ?_))))))
  refine .v (.conv_32_8 underlying23 underlying5 rfl) ?_
  refine .v (.move rfl) (.v (.shr32 (k := 16) (by decide) rfl rfl) ?_)
  refine .v (.conv_32_8 underlying23 underlying5 rfl) ?_
  refine .v (.move rfl) (.v (.shr32 (k := 8) (by decide) rfl rfl) ?_)
  refine .v (.conv_32_8 underlying23 underlying5 rfl) ?_
  refine .v (.move rfl) (.v (.shr32 (k := 0) (by decide) rfl rfl) ?_)
  refine .v (.conv_32_8 underlying23 underlying5 rfl) ?_
  refine .buildSlice (zs := [.int .u8 0, .int .u8 0, .int .u8 0, .int .u8 0]) (cs := [_, _, _, _]) underlying251 sizeOf5 zeroValue5 rfl rfl rfl (by kernel_rfl) rfl rfl (fun b32 => ?_)
  refine .appendR (A := .row b32 [_, _, _, _] 5) (us := b8s (bytes4 (wAt us i))) (Rd.row rfl rfl (Nat.le_refl _)) underlying251 typeInfo5 rfl rfl rfl rfl rfl rfl .tk .tk rfl (by simp only [t5]; rw [b8s_length]; show (4 * i + 4) * _ ≤ _; omega) rfl (fun v33 hv33 => ?_)
  refine .v (.assign rfl) (.nil (.blk_normal (TQ.then (.region (.v (.add64 rfl rfl (by omega)) ?_)))))
  refine .v (.move rfl) (.nil ?_)
  rw [show GSl 5 1 v33 (4 * i + (b8s (bytes4 (wAt us i))).length) (b8s (bytesOf (us.take i)) ++ b8s (bytes4 (wAt us i))) = GSl 5 1 v33 (4 * (i + 1)) (b8s (bytesOf (us.take (i + 1)))) from by rw [bytesOf_take hlt, b8s_append, b8s_length]; rfl]
  exact .next ⟨(i + 1, v33), by dsimp only; omega, hv33⟩ (by dsimp only; omega) .st .en
 ·
  obtain ⟨⟨i, v1⟩, hi, hv1⟩ := x
  dsimp only at hi hv1 h1 ⊢
  obtain rfl : i = us.length := by omega
  rw [List.take_of_length_le (Nat.le_refl _)]
  refine .exit (.then_exit (.then_exit (.blk_hit (TQ.then (.seq (.region (.v (.move rfl) (.v (.assign rfl) (.nil (TQ.then (.ret ?_)))))))))))
  exact .ret results190 (.tmp rfl .nil) v1 (by first | rfl | simp [tup, *]) hv1 .en

set_option maxHeartbeats 1000000 in
theorem S_word_Words {bs : List B} {u : Value} {A : Assn} (hR : Rd A u (b8s bs)) (hu : bs.length ≤ 1048576) (hm : bs.length % 4 = 0) : Spec prog 191 [u].toArray [A] (fun x : Nat => True) (fun x => .tuple #[.slice (some ⟨x, 0, none⟩) (bs.length / 4) (bs.length / 4), i64 0]) (fun x => [.row x (w32s (toW bs)) 23, A]) := by
 refine Spec.body func191 rfl ntmps191 rfl (fun σ R => ?_)
 refine .seq (.region (.v (.assign rfl) (.v (.assign rfl) (.nil (TQ.then (.seq (.seq (.shpR hR .tk (fun hSu => ?_)))))))))
 rw [b8s_length] at hSu
 have htw := @toW_len bs
 refine .region (.v (.move rfl) (.v (.lenS underlying251 rfl hSu) ?_))
 refine .v (.gtr rfl rfl) (.nil (TQ.then ?_))
 first | refine .cond_dec rfl (fun h1 => ?_) (fun h1 => ?_) | refine .cond rfl (fun h1 => ?_) (fun h1 => ?_)
 ·
  exfalso; omega
 ·
  refine .skip (TQ.then (.seq (.seq (.region (.v (.move rfl) (.v (.lenS underlying251 rfl hSu) ?_))))))
  refine .v (.rem64 rfl rfl (by omega)) ?_
  refine .v (.neq rfl rfl) (.nil (TQ.then ?_))
  first | refine .cond_dec rfl (fun h2 => ?_) (fun h2 => ?_) | refine .cond rfl (fun h2 => ?_) (fun h2 => ?_)
  ·
   exfalso; omega
  ·
   refine .skip (TQ.then (.seq (.region (.v (.move rfl) (.v (.lenS underlying251 rfl hSu) ?_)))))
   refine .v (.quo64 rfl rfl (by omega)) ?_
   refine .make underlying31 typeInfo23 rfl rfl rfl rfl rfl (by omega) (by simp only [t23]; omega) (by omega) rfl (fun b17 => ?_)
   rw [show ((bs.length : Int) / 4).toNat = bs.length / 4 by omega, show List.replicate (bs.length / 4) (Value.int .u32 0) = w32s ((toW bs).take 0 ++ List.replicate ((toW bs).length - 0) 0) from by rw [htw, List.take_zero, List.nil_append, w32s, List.map_replicate]; rfl]
   refine .v (.assign rfl) (.nil (TQ.then (.seq (.seq (.region (.v (.move rfl) (.v (.len underlying31 rfl) ?_)))))))
   refine .v (.move rfl) (.nil (TQ.then (.block (.loop (X := {i : Nat // i ≤ bs.length / 4}) (s0 := [(0, _), (4, _), (19, _)]) (fun x => [(20, i64 x.1)]) (fun x => [.row b17 (w32s ((toW bs).take x.1 ++ List.replicate ((toW bs).length - x.1) 0)) 23]) (fun x => bs.length / 4 - x.1) ⟨0, Nat.zero_le _⟩ .st .pk (fun x => ?_)))))
   refine .seq (.region (.v (.lss rfl rfl) (.nil (TQ.then (.seq ?_)))))
   first | refine .cond_dec rfl (fun h3 => ?_) (fun h3 => ?_) | refine .cond rfl (fun h3 => ?_) (fun h3 => ?_)
   ·
    obtain ⟨i, hi⟩ := x
    dsimp only at hi h3 ⊢
    have hlt : i < bs.length / 4 := by omega
    refine .openRd (v := u) .tk hR (fun hv1 hv2 => ?_) (fun g off cp hv1 hcp => ?_)
    ·
     exfalso; have h0 : bs.length = 0 := by have h := congrArg List.length hv2; rwa [b8s_length] at h
     omega
    subst hv1
    rw [b8s_length] at hcp
    refine .skip (TQ.then (.seq (.block (.seq (.region (.v (.move rfl) (.v (.assign rfl) (.nil (TQ.then (.seq (.region (.v (.move rfl) (.v (.move rfl) (.v (.mul64 rfl rfl (by omega)) ?_))))))))))))))
    refine .v (.sliceLo underlying251 sizeOf5 rfl rfl (by rw [b8s_length]; omega) (by omega)) ?_
    refine .v (.assign rfl) (.nil (TQ.then (.draw (H := [A]) (.q 0 (.q 1 (.q 2 (.q 3 (.q 4 (.q 5 (.q 6 (.q 7 (.q 8 (.q 9 (.q 10 (.q 11 (.q 12 (.q 13 (.q 14 (.q 15 (.q 16 (.q 17 (.q 18 (.q 19 (.q 20 (.q 21 (.q 22 (.q 23 (.q 24 (.q 25 (.e 26 .done))))))))))))))))))))))))))) (by kernel_rfl) .pk (by kernel_rfl) (by kernel_rfl) (by kernel_rfl) ?_)))
    refine .v rfl (.move rfl) (.v rfl (.move rfl) (.v rfl (.move rfl) (.v rfl (.ixSlice1 underlying251 sizeOf5 rfl rfl (by rw [b8s_length]; omega)) ?_)))
    refine .v rfl (.loadRd (i := 4 * i + 0) isAgg5 rfl .tk hR (b8s_get (bAt_get (by omega))) (by omega)) ?_
    refine .v rfl (.conv_8_32 underlying5 underlying23 rfl) ?_
    refine .v rfl (.shl32 (k := 24) (by decide) rfl rfl) ?_
    refine .v rfl (.move rfl) (.v rfl (.ixSlice1 underlying251 sizeOf5 rfl rfl (by rw [b8s_length]; omega)) ?_)
    refine .v rfl (.loadRd (i := 4 * i + 1) isAgg5 rfl .tk hR (b8s_get (bAt_get (by omega))) (by omega)) ?_
    refine .v rfl (.conv_8_32 underlying5 underlying23 rfl) ?_
    refine .v rfl (.shl32 (k := 16) (by decide) rfl rfl) ?_
    refine .v rfl (.or32 rfl rfl) (.v rfl (.move rfl) (.v rfl (.ixSlice1 underlying251 sizeOf5 rfl rfl (by rw [b8s_length]; omega)) ?_))
    refine .v rfl (.loadRd (i := 4 * i + 2) isAgg5 rfl .tk hR (b8s_get (bAt_get (by omega))) (by omega)) ?_
    refine .v rfl (.conv_8_32 underlying5 underlying23 rfl) ?_
    refine .v rfl (.shl32 (k := 8) (by decide) rfl rfl) ?_
    refine .v rfl (.or32 rfl rfl) (.v rfl (.move rfl) (.v rfl (.ixSlice1 underlying251 sizeOf5 rfl rfl (by rw [b8s_length]; omega)) ?_))
    refine .v rfl (.loadRd (i := 4 * i + 3) isAgg5 rfl .tk hR (b8s_get (bAt_get (by omega))) (by omega)) ?_
    refine .v rfl (.conv_8_32 underlying5 underlying23 rfl) ?_
    refine .v rfl (.shl32 (k := 0) (by decide) rfl rfl) ?_
    refine .v rfl (.or32 rfl rfl) (.v rfl (.ixSlice1 underlying31 sizeOf23 rfl rfl (by omega)) ?_)
    refine .eff rfl (fun fu_ li_ hk_ hs_ hl_ => ?_)
    refine .storeTo (new := w32s ((toW bs).take (i + 1) ++ List.replicate ((toW bs).length - (i + 1)) 0)) sizeOf23 rfl rfl rfl .up (by rw [show 0 + ((i : Nat) : Int).toNat = i by omega, ← fillTo_set (by omega), toW_get (by omega)]; exact w32s_set) (by rw [w32s_length, List.length_append, List.length_replicate, List.length_take]; omega) ?_
    refine .nil (TS.back hk_ hs_ hl_ .pk ?_)
    refine .done (.blk_normal (TQ.then (.region (.v (.add64 rfl rfl (by omega)) ?_))))
    refine .v (.move rfl) (.nil ?_)
    exact .next ⟨i + 1, by omega⟩ (by dsimp only; omega) .st .en
   ·
    obtain ⟨i, hi⟩ := x
    dsimp only at hi h3 ⊢
    obtain rfl : i = bs.length / 4 := by omega
    rw [show (toW bs).take (bs.length / 4) ++ List.replicate ((toW bs).length - bs.length / 4) 0 = toW bs from by rw [← htw, List.take_of_length_le (Nat.le_refl _), Nat.sub_self, List.replicate_zero, List.append_nil]]
    refine .exit (.then_exit (.then_exit (.blk_hit (TQ.then (.seq (.region (.v (.move rfl) (.v (.assign rfl) (.v (.assign rfl) (.nil (TQ.then (.ret ?_))))))))))))
    exact .ret results191 (.tmp rfl (.tmp rfl .nil)) b17 (by first | rfl | simp [tup, *]) trivial .en

set_option maxHeartbeats 400000 in
theorem S_mac_short {us : List W} {u : Value} {A : Assn} (hR : Rd A u (w32s us)) (hu : us.length ≤ 16) : Spec prog 180 [u].toArray [A] (fun x : Value => isCell x = true) (fun x => x) (fun x => [GSl 5 1 x (4 * us.length) (b8s (bytesOf us)), A]) := by
 refine Spec.body func180 rfl ntmps180 rfl (fun σ R => ?_)
 refine .seq (.region (.v (.assign rfl) (.nil (TQ.then (.seq (.seq (.shpR hR .tk (fun hSu => ?_))))))))
 rw [w32s_length] at hSu
 refine .region (.v (.move rfl) (.v (.lenS underlying31 rfl hSu) ?_))
 refine .v (.gtr rfl rfl) (.nil (TQ.then ?_))
 first | refine .cond_dec rfl (fun h1 => ?_) (fun h1 => ?_) | refine .cond rfl (fun h1 => ?_) (fun h1 => ?_)
 ·
  exfalso; omega
 ·
  refine .skip (TQ.then (.seq (.region (.v (.move rfl) (.call call190 (S_word_Bytes hR (by omega)) rfl .pk rfl (fun x11 hx11 => ?_))))))
  refine .v (.assign rfl) (.nil (TQ.then (.ret ?_)))
  exact .ret results180 (.tmp rfl .nil) x11 (by first | rfl | simp [tup, *]) hx11 .en

set_option maxHeartbeats 400000 in
theorem S_mac_padded {ks : List B} {p : B} {u : Value} {A : Assn} (hR : Rd A u (b8s ks)) (hu : ks.length ≤ 64) : Spec prog 192 [u, b8 p].toArray [A] (fun x : Nat => True) (fun x => .slice (some ⟨x, 0, none⟩) 64 64) (fun x => [.row x (b8s (padB ks p)) 5, A]) := by
 refine Spec.body func192 rfl ntmps192 rfl (fun σ R => ?_)
 refine .seq (.region (.v (.assign rfl) (.nil (TQ.then (.seq (.seq (.shpR hR .tk (fun hSu => ?_))))))))
 rw [b8s_length] at hSu
 refine .region (.v (.move rfl) (.v (.lenS underlying251 rfl hSu) ?_))
 refine .v (.gtr rfl rfl) (.nil (TQ.then ?_))
 first | refine .cond_dec rfl (fun h1 => ?_) (fun h1 => ?_) | refine .cond rfl (fun h1 => ?_) (fun h1 => ?_)
 ·
  exfalso; omega
 ·
  refine .skip (TQ.then (.seq (.region (.make underlying251 typeInfo5 rfl rfl rfl rfl rfl (by omega) (by simp only [t5]; omega) (by omega) rfl (fun b15 => ?_)))))
  refine .v (.assign rfl) (.nil (TQ.then (.seq ?_)))
  rw [show List.replicate (64 : Int).toNat (Value.int .u8 0) = b8s (List.replicate 64 0) from rfl]
  refine .region (.v (.move rfl) (.v (.move rfl) (.copyRd (A := A) (new := b8s (ks ++ List.replicate (64 - ks.length) 0)) hR underlying251 sizeOf5 rfl rfl .tk (by rw [b8s_length]; show ks.length ≤ 64; omega) b8s_cells .up (by rw [List.take_zero, List.nil_append, Nat.zero_add, b8s_length, b8s, b8s, b8s, List.map_append, ← List.map_drop, List.drop_replicate]) (by rw [b8s_length, b8s_length, List.length_replicate]; omega) rfl rfl ?_)))
  refine .nil (TQ.then (.seq (.seq ?_)))
  have hl0 : (ks ++ List.replicate (64 - ks.length) (0 : B)).length = 64 := by simp; omega
  obtain ⟨l0, hl⟩ : ∃ l0, ks ++ List.replicate (64 - ks.length) (0 : B) = l0 := ⟨_, rfl⟩
  rw [hl] at hl0 ⊢
  refine .region (.v (.move rfl) (.v (.len underlying251 rfl) ?_))
  refine .v (.move rfl) (.nil (TQ.then (.block ?_)))
  refine .loop (X := {i : Nat // i ≤ 64}) (s0 := [(1, _), (6, _), (20, _)]) (fun x => [(21, i64 x.1)]) (fun x => [.row b15 (b8s (xorTo l0 p x.1)) 5]) (fun x => 64 - x.1) ⟨0, by omega⟩ .st (by rw [show b8s l0 = b8s (xorTo l0 p 0) from rfl]; exact .pk) (fun x => ?_)
  refine .seq (.region (.v (.lss rfl rfl) (.nil (TQ.then (.seq ?_)))))
  first | refine .cond_dec rfl (fun h2 => ?_) (fun h2 => ?_) | refine .cond rfl (fun h2 => ?_) (fun h2 => ?_)
  ·
   obtain ⟨i, hi⟩ := x
   dsimp only at hi h2 ⊢
   have hlt : i < 64 := by have : ((64 : Int).toNat : Int) = 64 := rfl; omega
   refine .skip (TQ.then (.seq (.block (.seq (.region (.v (.move rfl) (.v (.assign rfl) (.nil (TQ.then (.region (.v (.move rfl) (.v (.move rfl) ?_))))))))))))
   refine .v (.ixSlice1 underlying251 sizeOf5 rfl rfl (by have : ((64 : Int).toNat : Int) = 64 := rfl; omega)) ?_
   refine .v (.load isAgg5 rfl .tk (b8s_get (by rw [show 0 + ((i : Nat) : Int).toNat = i by omega]; exact bAt_get (by rw [xorTo_len]; omega)))) ?_
   refine .v (.move rfl) (.v (.xor8 rfl rfl) ?_)
   refine .v (.ixSlice1 underlying251 sizeOf5 rfl rfl (by have : ((64 : Int).toNat : Int) = 64 := rfl; omega)) ?_
   refine .storeTo (new := b8s (xorTo l0 p (i + 1))) sizeOf5 rfl rfl rfl .up (by rw [show 0 + ((i : Nat) : Int).toNat = i by omega, ← xorTo_set (by omega)]; exact b8s_set) (by rw [b8s_length, xorTo_len]; omega) ?_
   refine .nil (.blk_normal (TQ.then (.region (.v (.add64 rfl rfl (by omega)) ?_))))
   refine .v (.move rfl) (.nil ?_)
   exact .next ⟨i + 1, by omega⟩ (by dsimp only; omega) .st .en
  ·
   obtain ⟨i, hi⟩ := x
   dsimp only at hi h2 ⊢
   obtain rfl : i = 64 := by have : ((64 : Int).toNat : Int) = 64 := rfl; omega
   rw [xorTo_all hl0, ← hl, show (ks ++ List.replicate (64 - ks.length) (0 : B)).map (· ^^^ p) = padB ks p from rfl]
   refine .exit (.then_exit (.then_exit (.blk_hit (TQ.then (.seq (.region (.v (.move rfl) (.v (.assign rfl) (.nil (TQ.then (.ret ?_)))))))))))
   exact .ret results192 (.tmp rfl .nil) b15 (by first | rfl | simp [tup, *]) trivial .en

set_option maxHeartbeats 400000 in
theorem S_mac_begun {AK0 : Assn} {ks : List B} {p : B} {u : Value} {A : Assn} (hR : Rd A u (b8s ks)) (hu : ks.length ≤ 64) (hK0 : Tab AK0 0 := by assumption) : Spec prog 181 [u, b8 p].toArray [A, AK0] (fun x : Nat => True) (fun x => ptr x) (fun x => [DigA x (Dig.new.add (toW (padB ks p))), A, AK0]) := by
 refine Spec.body func181 rfl ntmps181 rfl (fun σ R => ?_)
 refine .seq (.region (.v (.assign rfl) (.nil (TQ.then (.seq ?_)))))
 have hpl := padB_len (p := p) hu
 have htl : (toW (padB ks p)).length = 16 := by rw [toW_len, hpl]
 refine .region (.call call64 (S_sha_NewD) rfl .pk rfl (fun x8 hx8 => ?_))
 refine .v (.assign rfl) (.nil (TQ.then (.seq (.region (.v (.move rfl) (.v (.move rfl) (.call call192 (S_mac_padded hR hu) rfl .pk rfl (fun x12 hx12 => ?_))))))))
 refine .call call191 (S_word_Words (A := .row x12 (b8s (padB ks p)) 5) (bs := padB ks p) (Rd.row (by rw [b8s_length, hpl]) (b8s_whole hpl) (Nat.le_refl _)) (by omega) (by omega)) rfl .pk rfl (fun x13 hx13 => ?_)
 rw [hpl]
 refine .v (.move rfl) (.v (.extract rfl rfl) (.v (.extract rfl rfl) (.v (.assign rfl) (.v (.assign rfl) (.nil (TQ.then (.seq (.region (.v (.move rfl) (.v (.move rfl) (.call call66 (S_sha_Digest_Add (D := Dig.new) (A := .row x13 (w32s (toW (padB ks p))) 23) (us := toW (padB ks p)) (Rd.row (by rw [w32s_length, htl]) (words_whole htl) (Nat.le_refl _)) (by omega)) rfl .pk rfl (fun x18 hx18 => ?_))))))))))))
 refine .nil (TQ.then (.seq (.region (.v (.move rfl) (.v (.assign rfl) (.nil (TQ.then (.ret ?_))))))))
 exact .ret results181 (.tmp rfl .nil) x8 (by first | rfl | simp [tup, *]) trivial .en

def MacA (m : Nat) (D1 D2 : Dig) : Assn := .ex fun x : Nat × Nat => .all [.row m [ptr x.1, ptr x.2] 258, DigA x.1 D1, DigA x.2 D2]
theorem MacA.open {m : Nat} {D1 D2 : Dig} {f : FuncId} {args : Array Value} {pre : List Assn} {X : Type} {q : X → Prop} {ret : X → Value} {post : X → List Assn}
  (h : ∀ a b, Spec prog f args ([.row m [ptr a, ptr b] 258, DigA a D1, DigA b D2] ++ pre) q ret post) : Spec prog f args (MacA m D1 D2 :: pre) q ret post :=
 Spec.exL fun x => Spec.allL (h x.1 x.2)
theorem MacA.openT {P : Program} {n : Nat} {σ : Env} {R : Assn} {Q : Exit → Act → World → Prop} {s : Slots} {c : Code} {L L' : List Assn} {m : Nat} {D1 D2 : Dig} (ht : Take L (MacA m D1 D2) L')
  (h : ∀ a b, TC P n σ R c Q s ([.row m [ptr a, ptr b] 258, DigA a D1, DigA b D2] ++ L')) : TC P n σ R c Q s L := TC.ex ht fun x => TC.allL .here (h x.1 x.2)
theorem MacA.fin {L rest : List Assn} {m a b : Nat} {D1 D2 : Dig} (hp : Pick L [.row m [ptr a, ptr b] 258, DigA a D1, DigA b D2] rest) : Ent L (MacA m D1 D2 :: rest) :=
 Ent.trans (Ent.perm hp) (Ent.trans (Ent.allR (M := [.row m [ptr a, ptr b] 258, DigA a D1, DigA b D2]) (L := rest)) (Ent.exR (A := fun x : Nat × Nat => .all [.row m [ptr x.1, ptr x.2] 258, DigA x.1 D1, DigA x.2 D2]) (a, b)))

theorem pl_258_WMac : Places prog 258 [(0, 1), (1, 1)] := ⟨_, underlying258, fun w => by simp [sizeOf113]⟩
set_option maxHeartbeats 400000 in
theorem S_mac_New {AK0 : Assn} {us : List W} {u : Value} {A : Assn} (hR : Rd A u (w32s us)) (hu : us.length ≤ 16) (hK0 : Tab AK0 0 := by assumption) : Spec prog 170 [u].toArray [A, AK0] (fun x : Nat => True) (fun x => ptr x) (fun x => [MacA x (macD us 54#8) (macD us 92#8), A, AK0]) := by
 refine Spec.body func170 rfl ntmps170 rfl (fun σ R => ?_)
 refine .seq (.region (.v (.assign rfl) (.nil (TQ.then (.seq (.region (.v (.move rfl) (.call call180 (S_mac_short hR hu) rfl .pk rfl (fun x5 hx5 => ?_)))))))))
 refine .v (.assign rfl) (.nil (TQ.then (.seq ?_)))
 have hbl := @bytesOf_len us
 refine .region (.v (.move rfl) (.call call181 (S_mac_begun (A := GSl 5 1 x5 (4 * us.length) (b8s (bytesOf us))) (ks := bytesOf us) (p := 54#8) Rd.gsl (by omega)) rfl .pk rfl (fun x7 hx7 => ?_)))
 refine .v (.move rfl) (.call call181 (S_mac_begun (A := GSl 5 1 x5 (4 * us.length) (b8s (bytesOf us))) (ks := bytesOf us) (p := 92#8) Rd.gsl (by omega)) rfl .pk rfl (fun x9 hx9 => ?_))
 refine .v (.build (cs := [_, _]) zeroValue258 pl_258_WMac rfl rfl) ?_
 refine .box (vs := [_, _]) rfl rfl rfl (fun b11 => ?_)
 refine .v (.assign rfl) (.nil (TQ.then (.ret ?_)))
 exact .ret results170 (.tmp rfl .nil) b11 (by first | rfl | simp [tup, *]) trivial (Ent.trans (MacA.fin .pk) .en)

theorem fo_258_0_WMac : FieldOff prog 258 0 0 := FieldOff.of 113 1 underlying258 rfl sizeOf113 rfl
theorem fo_258_1_WMac : FieldOff prog 258 1 1 := FieldOff.of 113 1 underlying258 rfl sizeOf113 rfl
set_option maxHeartbeats 400000 in
theorem S_mac_Mac_Tag {AK0 : Assn} {m : Nat} {D1 D2 : Dig} (hK0 : Tab AK0 0 := by assumption) : Spec prog 171 [ptr m].toArray [MacA m D1 D2, AK0] (fun _ : Unit => True) (fun _ => (tagD D1 D2).val) (fun _ => [MacA m D1 D2, AK0]) := by
 refine MacA.open (fun a b => ?_)
 refine Spec.body func171 rfl ntmps171 rfl (fun σ R => ?_)
 refine .seq (.region (.alloc zeroValue24 rfl rfl (fun b2 => ?_)))
 refine .nil (TQ.then (.seq (.region (.v (.move rfl) (.v (.nilCheck rfl) (.v (.field fo_258_0_WMac rfl) (.v (.load isAgg113 rfl .tk (by rfl)) ?_)))))))
 refine .call call182 (S_sha_Digest_Sum) rfl .pk rfl (fun x9 hx9 => ?_)
 refine .alloc zeroValue24 rfl rfl (fun b3 => ?_)
 refine .storeAll (us := [_, _, _, _, _, _, _, _]) sizeOf24 rfl rfl rfl rfl .up rfl ?_
 refine .nil (TQ.then (.seq (.region (.v (.move rfl) (.v (.nilCheck rfl) (.v (.field fo_258_1_WMac rfl) (.v (.load isAgg113 rfl .tk (by rfl)) ?_)))))))
 refine .call call183 (S_sha_Digest_Copy) rfl .pk rfl (fun x14 hx14 => ?_)
 refine .v (.assign rfl) (.nil (TQ.then (.seq (.region (.v (.move rfl) (.v (.sliceArr underlying24 sizeOf23 rfl) ?_))))))
 refine .call call66 (S_sha_Digest_Add (A := .row b3 [w32 D1.sum.a, w32 D1.sum.b, w32 D1.sum.c, w32 D1.sum.d, w32 D1.sum.e, w32 D1.sum.f, w32 D1.sum.g, w32 D1.sum.h] 24) (us := D1.sum.ws) (Rd.row rfl rfl (Nat.le_refl _)) (by show 8 ≤ _; decide)) rfl .pk rfl (fun x17 hx17 => ?_)
 refine .nil (TQ.then (.seq (.region (.v (.move rfl) (.call call182 (S_sha_Digest_Sum) rfl .pk rfl (fun x19 hx19 => ?_))))))
 refine .storeAll (us := [_, _, _, _, _, _, _, _]) sizeOf24 rfl rfl rfl rfl .up rfl ?_
 refine .nil (TQ.then (.ret ?_))
 exact .ret results171 (.agg isAgg24 sizeOf24 rfl .tk (by rfl) (by rfl) .nil) () rfl trivial (Ent.trans (MacA.fin .pk) .en)

set_option maxHeartbeats 400000 in
theorem S_mac_Tag {AK0 : Assn} {us ms : List W} {u v : Value} {A A2 : Assn} (hR : Rd A u (w32s us)) (hu : us.length ≤ 16) (hR2 : Rd A2 v (w32s ms)) (hu2 : ms.length ≤ 1099511627776) (hK0 : Tab AK0 0 := by assumption) : Spec prog 157 [u, v].toArray [A, A2, AK0] (fun _ : Unit => True) (fun _ => (macW us ms).val) (fun _ => [A, A2, AK0]) := by
 refine Spec.body func157 rfl ntmps157 rfl (fun σ R => ?_)
 refine .seq (.region (.alloc zeroValue24 rfl rfl (fun b4 => ?_)))
 refine .nil (TQ.then (.seq (.region (.v (.move rfl) (.call call170 (S_mac_New hR hu) rfl .pk rfl (fun x7 hx7 => ?_))))))
 refine .v (.assign rfl) (.nil (TQ.then (.seq (MacA.openT .tk (fun da db => ?_)))))
 refine .region (.v (.move rfl) (.v (.nilCheck rfl) (.v (.field fo_258_0_WMac rfl) (.v (.load isAgg113 rfl .tk (by rfl)) ?_))))
 refine .v (.move rfl) (.call call66 (S_sha_Digest_Add (A := A2) (us := ms) hR2 hu2) rfl .pk rfl (fun x13 hx13 => ?_))
 refine .nil (TQ.then (.seq (.ent (MacA.fin .pk) ?_)))
 refine .region (.v (.move rfl) (.call call171 (S_mac_Mac_Tag) rfl .pk rfl (fun x15 hx15 => ?_)))
 refine .storeAll (us := [_, _, _, _, _, _, _, _]) sizeOf24 rfl rfl rfl rfl .up rfl ?_
 refine .nil (TQ.then (.ret ?_))
 exact .ret results157 (.agg isAgg24 sizeOf24 rfl .tk (by rfl) (by rfl) .nil) () rfl trivial .en

set_option maxHeartbeats 400000 in
theorem S_attest_Tag {AK0 : Assn} {K M D : S8} (hK0 : Tab AK0 0 := by assumption) : Spec prog 133 [K.val, M.val, D.val].toArray [AK0] (fun _ : Unit => True) (fun _ => (macW K.ws (M.ws ++ D.ws)).val) (fun _ => [AK0]) := by
 refine Spec.body func133 rfl ntmps133 rfl (fun σ R => ?_)
 refine .seq (.region (.box (vs := [_, _, _, _, _, _, _, _]) rfl rfl rfl (fun b3 => ?_)))
 refine .box (vs := [_, _, _, _, _, _, _, _]) rfl rfl rfl (fun b4 => ?_)
 refine .box (vs := [_, _, _, _, _, _, _, _]) rfl rfl rfl (fun b5 => ?_)
 refine .alloc zeroValue24 rfl rfl (fun b6 => ?_)
 refine .nil (TQ.then (.seq (.draw (H := []) (.q 0 (.q 1 (.q 2 (.e 3 (.e 4 (.e 5 .done)))))) (by kernel_rfl) .pk (by kernel_rfl) (by kernel_rfl) (by kernel_rfl) ?_)))
 refine .v rfl (.sliceArr underlying24 sizeOf23 rfl) ?_
 refine .v rfl (.sliceArrHM underlying24 sizeOf23 rfl rfl rfl (by omega)) ?_
 refine .v rfl (.sliceArr underlying24 sizeOf23 rfl) ?_
 refine .eff rfl (fun fu_ li_ hk_ hs_ hl_ => ?_)
 refine .appendF (A := .row b5 [w32 D.a, w32 D.b, w32 D.c, w32 D.d, w32 D.e, w32 D.f, w32 D.g, w32 D.h] 24) (B := .row b4 [w32 M.a, w32 M.b, w32 M.c, w32 M.d, w32 M.e, w32 M.f, w32 M.g, w32 M.h] 24) (xs := w32s M.ws) (us := w32s D.ws) (n0 := 8) (Rd.row rfl rfl (Nat.le_refl _)) rfl (Rd.row rfl rfl (Nat.le_refl _)) (by simp [w32s]) underlying31 typeInfo23 rfl rfl rfl rfl rfl rfl .tk .tk (by simp only [t23]; show (8 + 8) * _ ≤ _; decide) rfl (fun v10 hv10 => ?_)
 rw [show GSl 23 1 v10 (8 + (w32s D.ws).length) (w32s M.ws ++ w32s D.ws) = GSl 23 1 v10 16 (w32s (M.ws ++ D.ws)) from rfl]
 refine .nil (TS.back hk_ hs_ hl_ .pk ?_)
 refine .eff rfl (fun fu_ li_ hk_ hs_ hl_ => ?_)
 refine .call call157 (S_mac_Tag (A := .row b3 [w32 K.a, w32 K.b, w32 K.c, w32 K.d, w32 K.e, w32 K.f, w32 K.g, w32 K.h] 24) (us := K.ws) (A2 := GSl 23 1 v10 16 (w32s (M.ws ++ D.ws))) (ms := M.ws ++ D.ws) (Rd.row rfl rfl (Nat.le_refl _)) (by show 8 ≤ _; decide) Rd.gsl (by show 16 ≤ _; decide)) rfl .pk rfl (fun x11 hx11 => ?_)
 refine .nil (TS.back hk_ hs_ hl_ .pk ?_)
 refine .eff rfl (fun fu_ li_ hk_ hs_ hl_ => ?_)
 refine .storeAll (us := [_, _, _, _, _, _, _, _]) sizeOf24 rfl rfl rfl rfl .up rfl ?_
 refine .nil (TS.back hk_ hs_ hl_ .pk ?_)
 refine .done (TQ.then (.ret ?_))
 exact .ret results133 (.agg isAgg24 sizeOf24 rfl .tk (by rfl) (by rfl) .nil) () rfl trivial .en

set_option maxHeartbeats 400000 in
theorem S_mac_Same {a b : S8} : Spec prog 160 [a.val, b.val].toArray [] (fun _ : Unit => True) (fun _ => .tuple #[.bool (decide (a = b)), i64 8]) (fun _ => []) := by
 refine Spec.body func160 rfl ntmps160 rfl (fun σ R => ?_)
 refine .seq (.region (.box (vs := [_, _, _, _, _, _, _, _]) rfl rfl rfl (fun b2 => ?_)))
 refine .box (vs := [_, _, _, _, _, _, _, _]) rfl rfl rfl (fun b3 => ?_)
 refine .v (.assign rfl) (.v (.assign rfl) (.nil (TQ.then (.seq (.region (.v (.assign (v := w32 0#32) rfl) (.nil (TQ.then (.seq (.seq (.region (.v (.move rfl) (.nil (TQ.then (.block (.loop (X := {x : Nat × W // x.1 ≤ 8 ∧ (x.2 = 0 ↔ a.ws.take x.1 = b.ws.take x.1)}) (s0 := [(2, _), (3, _)]) (fun x => [(5, i64 x.1.1), (6, w32 x.1.2), (8, i64 x.1.1)]) (fun x => []) (fun x => 8 - x.1.1) ⟨(0, 0), by decide, by simp⟩ .st .pk (fun x => ?_)))))))))))))))))
 refine .seq (.region (.v (.lss rfl rfl) (.nil (TQ.then (.seq ?_)))))
 first | refine .cond_dec rfl (fun h1 => ?_) (fun h1 => ?_) | refine .cond rfl (fun h1 => ?_) (fun h1 => ?_)
 ·
  obtain ⟨⟨i, ap⟩, hi, hap⟩ := x
  dsimp only at hi hap h1 ⊢
  have hlt : i < 8 := by omega
  refine .skip (TQ.then (.seq (.block (.seq (.region (.v (.move rfl) (.v (.assign rfl) (.nil (TQ.then (.seq (.draw (H := [.row b2 _ _, .row b3 _ _]) (.q 0 (.q 1 (.q 2 (.q 3 (.q 4 (.q 5 (.q 6 (.q 7 (.q 8 (.q 9 .done)))))))))) (by kernel_rfl) .pk (by kernel_rfl) (by kernel_rfl) (by kernel_rfl) ?_)))))))))))
  refine .v rfl (.move rfl) (.v rfl (.move rfl) (.v rfl (.ixArr1 underlying24 sizeOf23 rfl rfl (by omega)) ?_))
  refine .v rfl (.load isAgg23 rfl .tk (w32s_get (g := a.ws) (by rw [show 0 + ((i : Nat) : Int).toNat = i by omega]; exact wAt_get hlt))) ?_
  refine .v rfl (.move rfl) (.v rfl (.ixArr1 underlying24 sizeOf23 rfl rfl (by omega)) ?_)
  refine .v rfl (.load isAgg23 rfl .tk (w32s_get (g := b.ws) (by rw [show 0 + ((i : Nat) : Int).toNat = i by omega]; exact wAt_get hlt))) ?_
  refine .v rfl (.xor32 rfl rfl) (.v rfl (.or32 rfl rfl) (.v rfl (.assign rfl) (.done (TQ.then (.region (.v (.move rfl) (.v (.add64 rfl rfl (by omega)) ?_)))))))
  refine .v (.assign rfl) (.nil (.blk_normal (TQ.then (.region (.v (.add64 rfl rfl (by omega)) ?_)))))
  refine .v (.move rfl) (.nil ?_)
  exact .next ⟨(i + 1, ap ||| (wAt a.ws i ^^^ wAt b.ws i)), by dsimp only; omega, same_step hlt hlt hap⟩ (by dsimp only; omega) .st .en
 ·
  obtain ⟨⟨i, ap⟩, hi, hap⟩ := x
  dsimp only at hi hap h1 ⊢
  obtain rfl : i = 8 := by omega
  replace hap : ap = 0 ↔ a = b := hap.trans S8.ws_inj
  refine .exit (.then_exit (.then_exit (.blk_hit (TQ.then (.seq (.region (.v (.move rfl) (.v (.eql32 (b := 0#32) rfl rfl) ?_))))))))
  refine .v (.move rfl) (.v (.assign rfl) (.v (.assign rfl) (.nil (TQ.then (.ret ?_)))))
  exact .ret results160 (.tmp rfl (.tmp rfl .nil)) () (by rw [show decide (a = b) = decide (ap = 0#32) from decide_eq_decide.2 hap.symm]; rfl) trivial .en

set_option maxHeartbeats 400000 in
theorem S_attest_Verify {AK0 : Assn} {K M D T : S8} (hK0 : Tab AK0 0 := by assumption) : Spec prog 136 [K.val, M.val, D.val, T.val].toArray [AK0] (fun _ : Unit => True) (fun _ => .bool (decide (macW K.ws (M.ws ++ D.ws) = T))) (fun _ => [AK0]) := by
 refine Spec.body func136 rfl ntmps136 rfl (fun σ R => ?_)
 refine .seq (.region (.box (vs := [_, _, _, _, _, _, _, _]) rfl rfl rfl (fun b4 => ?_)))
 refine .box (vs := [_, _, _, _, _, _, _, _]) rfl rfl rfl (fun b5 => ?_)
 refine .box (vs := [_, _, _, _, _, _, _, _]) rfl rfl rfl (fun b6 => ?_)
 refine .box (vs := [_, _, _, _, _, _, _, _]) rfl rfl rfl (fun b7 => ?_)
 refine .v (.assign rfl) (.nil (TQ.then (.seq (.draw (H := [.row b4 _ _, .row b5 _ _, .row b6 _ _, .row b7 _ _]) (.q 0 (.q 1 (.q 2 (.q 4 (.e 3 (.e 5 (.q 6 (.q 7 (.q 8 (.q 9 (.q 10 .done))))))))))) (by kernel_rfl) .pk (by kernel_rfl) (by kernel_rfl) (by kernel_rfl) ?_))))
 refine .v rfl (.loadAgg (vs := [_, _, _, _, _, _, _, _]) isAgg24 sizeOf24 rfl .tk (by rfl) (by rfl)) ?_
 refine .v rfl (.loadAgg (vs := [_, _, _, _, _, _, _, _]) isAgg24 sizeOf24 rfl .tk (by rfl) (by rfl)) ?_
 refine .v rfl (.loadAgg (vs := [_, _, _, _, _, _, _, _]) isAgg24 sizeOf24 rfl .tk (by rfl) (by rfl)) ?_
 refine .v rfl (.loadAgg (vs := [_, _, _, _, _, _, _, _]) isAgg24 sizeOf24 rfl .tk (by rfl) (by rfl)) ?_
 refine .eff rfl (fun fu_ li_ hk_ hs_ hl_ => ?_)
 refine .call call133 (S_attest_Tag) rfl .pk rfl (fun x15 hx15 => ?_)
 refine .nil (TS.back hk_ hs_ hl_ .pk ?_)
 refine .eff rfl (fun fu_ li_ hk_ hs_ hl_ => ?_)
 refine .call call160 (S_mac_Same (a := macW K.ws (M.ws ++ D.ws)) (b := T)) rfl .pk rfl (fun x17 hx17 => ?_)
 refine .nil (TS.back hk_ hs_ hl_ .pk ?_)
 refine .v rfl (.move rfl) (.v rfl (.extract rfl rfl) (.v rfl (.extract rfl rfl) (.v rfl (.assign rfl) (.v rfl (.assign rfl) (.done (TQ.then (.seq (.region (.v (.move rfl) (.v (.assign rfl) (.nil (TQ.then (.ret ?_)))))))))))))
 exact .ret results136 (.tmp rfl .nil) () rfl trivial .en
end Go.Wd
