/- PROVED HERE: contracts of functions of the program, walked: each returns what the plain model says, for all items that its precondition names. No condition beyond each theorem's own. -/
import Derived.Test.YtkpomphooljgmaaGreatDoorProg
import Derived.Test.YtkpomphooljgmaaGreatDoorModel
import Derived.Test.YtkpomphooljgmaaGreatDoorPk
import Derived.Test.YtkpomphooljgmaaGreatDoorMSha2
import Derived.Test.YtkpomphooljgmaaGreatDoorWSha
namespace Go.Wd
open Go Go.Proofs Go.Proofs.Tryz
def DigA (d : Nat) (D : Dig) : Assn := .ex fun v : Value => .all [.fact D.ok, DigR d D.st D.n v, GSl 23 1 v D.ws.length (w32s D.ws)]
theorem DigA.open {d : Nat} {D : Dig} {f : FuncId} {args : Array Value} {pre : List Assn} {X : Type} {q : X → Prop} {ret : X → Value} {post : X → List Assn}
  (h : D.ok → ∀ v, Spec prog f args ([DigR d D.st D.n v, GSl 23 1 v D.ws.length (w32s D.ws)] ++ pre) q ret post) : Spec prog f args (DigA d D :: pre) q ret post :=
 Spec.exL fun v => Spec.allL (Spec.factL fun hl => h hl v)
theorem DigA.fin {L rest : List Assn} {d : Nat} {D : Dig} {v : Value} (hD : D.ok) (hp : Pick L [DigR d D.st D.n v, GSl 23 1 v D.ws.length (w32s D.ws)] rest) : Ent L (DigA d D :: rest) :=
 Ent.trans (Ent.perm hp) (Ent.trans (Ent.factR (φ := D.ok) hD) (Ent.trans (Ent.allR (M := [.fact D.ok, DigR d D.st D.n v, GSl 23 1 v D.ws.length (w32s D.ws)]) (L := rest))
  (Ent.exR (A := fun v : Value => .all [.fact D.ok, DigR d D.st D.n v, GSl 23 1 v D.ws.length (w32s D.ws)]) v)))
theorem S_sha_NewD : Spec prog 64 [].toArray [] (fun _ : Nat => True) (fun x => ptr x) (fun x => [DigA x Dig.new]) :=
 (S_sha_New).post fun x _ => Ent.trans (GSl.emp (E := 23) (k := 1)) (Ent.trans (DigA.fin (rest := []) (D := Dig.new) Dig.new_ok (.cons (.there .here) (.cons .here .nil))) (Ent.refl _))

theorem fo_168_0_WSha2 : FieldOff prog 168 0 0 := FieldOff.of 24 8 underlying168 rfl sizeOf24 rfl
theorem fo_168_1_WSha2 : FieldOff prog 168 1 8 := FieldOff.of 2 1 underlying168 rfl sizeOf2 rfl
theorem fo_168_2_WSha2 : FieldOff prog 168 2 9 := FieldOff.of 31 1 underlying168 rfl sizeOf31 rfl
set_option maxHeartbeats 1000000 in
theorem S_sha_Digest_Add {AK0 : Assn} {d : Nat} {D : Dig} {us : List W} {u : Value} {A : Assn} (hR : Rd A u (w32s us)) (hu : us.length ≤ 1099511627776) (hK0 : Tab AK0 0 := by assumption) : Spec prog 66 [ptr d, u].toArray [DigA d D, AK0, A] (fun _ : Unit => True) (fun _ => .tuple #[]) (fun _ => [DigA d (D.add us), AK0, A]) := by
 refine DigA.open (fun hD v => ?_)
 obtain ⟨st, n, ws⟩ := D
 obtain ⟨hn0, hn1, hw⟩ := hD
 dsimp only at hn0 hn1 hw ⊢
 refine Spec.body func66 rfl ntmps66 rfl (fun σ R => ?_)
 refine .seq (.seq (.shpR hR .tk (fun hSu => ?_)))
 rw [w32s_length] at hSu
 refine .region (.v (.move rfl) (.v (.lenS underlying31 rfl hSu) ?_))
 refine .v (.move rfl) (.v (.nilCheck rfl) (.v (.field fo_168_1_WSha2 rfl) (.v (.load isAgg2 rfl .tk (by rfl)) ?_)))
 refine .v (.sub64 rfl rfl (by omega)) ?_
 refine .v (.gtr rfl rfl) (.nil (TQ.then ?_))
 first | refine .cond_dec rfl (fun h1 => ?_) (fun h1 => ?_) | refine .cond rfl (fun h1 => ?_) (fun h1 => ?_)
 ·
  refine .ret (.then_ret ?_)
  exact .ret0 (.inl rfl) rfl () rfl trivial (by rw [Dig.add, if_pos (by dsimp only; omega)]; exact Ent.trans (DigA.fin (D := ⟨st, n, ws⟩) ⟨hn0, hn1, hw⟩ .pk) .en)
 ·
  refine .skip (TQ.then (.seq (.region (.v (.move rfl) (.v (.nilCheck rfl) (.v (.field fo_168_1_WSha2 rfl) (.v (.load isAgg2 rfl .tk (by rfl)) ?_)))))))
  refine .v (.move rfl) (.v (.lenS underlying31 rfl hSu) ?_)
  refine .v (.add64 rfl rfl (by omega)) ?_
  refine .v (.nilCheck rfl) (.v (.field fo_168_1_WSha2 rfl) (.store sizeOf2 rfl rfl rfl .up (by rfl) ?_))
  refine .nil (TQ.then (.seq (.shpG .tk (fun hS => ?_))))
  refine .draw (H := [.row d _ _]) (.q 0 (.q 1 (.q 2 (.q 3 (.q 4 (.q 5 (.q 6 (.q 7 (.q 8 (.q 9 (.q 10 (.q 11 (.q 12 (.q 13 (.q 14 (.q 15 (.e 16 (.q 17 .done)))))))))))))))))) (by kernel_rfl) .pk (by kernel_rfl) (by kernel_rfl) (by kernel_rfl) ?_
  refine .v rfl (.move rfl) (.v rfl (.nilCheck rfl) (.v rfl (.field fo_168_2_WSha2 rfl) (.v rfl (.load isAgg31 rfl .tk (by rfl)) ?_)))
  refine .v rfl (.move rfl) (.v rfl (.nilCheck rfl) (.v rfl (.field fo_168_2_WSha2 rfl) (.v rfl (.load isAgg31 rfl .tk (by rfl)) ?_)))
  refine .v rfl (.lenS underlying31 rfl hS) ?_
  refine .v rfl (.move rfl) (.v rfl (.nilCheck rfl) (.v rfl (.field fo_168_2_WSha2 rfl) (.v rfl (.load isAgg31 rfl .tk (by rfl)) ?_)))
  refine .v rfl (.lenS underlying31 rfl hS) ?_
  refine .v rfl (.sliceCapS underlying31 sizeOf23 rfl hS rfl rfl) ?_
  refine .v rfl (.move rfl) (.eff rfl (fun fu_ li_ hk_ hs_ hl_ => ?_))
  refine .appendC (A := A) hR underlying31 typeInfo23 rfl rfl rfl rfl rfl rfl .tk .tk w32s_cells (by simp only [t23]; rw [w32s_length]; omega) rfl (fun v38 hv38 => ?_)
  refine .nil (TS.back hk_ hs_ hl_ .pk ?_)
  refine .v rfl (.assign rfl) (.done (TQ.then (.seq (.block ?_))))
  refine .loop (X := {x : S8 × List W × Value // putAll st ws us = putAll x.1 [] x.2.1 ∧ isCell x.2.2 = true}) (s0 := [(0, _)]) (fun x => [(4, x.1.2.2)]) (fun x => [.row d [w32 x.1.1.a, w32 x.1.1.b, w32 x.1.1.c, w32 x.1.1.d, w32 x.1.1.e, w32 x.1.1.f, w32 x.1.1.g, w32 x.1.1.h, i64 (n + us.length), v] 168, WinV 23 x.1.2.2 (w32s x.1.2.1)]) (fun x => x.1.2.1.length) ⟨(st, ws ++ us, v38), putAll_nil hw, hv38⟩ .st (by simp only [w32s_append]; repeat first | exact .nil | (apply Pick.cons; focus (repeat first | exact .here | apply Take.there))) (fun x => ?_)
  refine .seq (.seq ?_)
  skip
  refine .region (.v (.move rfl) (.v (.lenRd underlying31 rfl .tk Rd.win) ?_))
  refine .v (.geq rfl rfl) (.nil (TQ.then ?_))
  first | refine .cond_dec rfl (fun h2 => ?_) (fun h2 => ?_) | refine .cond rfl (fun h2 => ?_) (fun h2 => ?_)
  ·
   obtain ⟨⟨st1, l1, v1⟩, hp, hv1⟩ := x
   dsimp only at h2 hp hv1 ⊢
   rw [w32s_length] at h2
   refine .ent (Ent.perm (M := [WinV _ _ _]) .pk) ?_
   refine .ex .here (fun y => ?_)
   rcases y with _ | ⟨g, off, cap, lr⟩
   ·
    refine .fact .here (fun hy => ?_)
    exfalso; have hy0 : l1.length = 0 := by have h0 := congrArg List.length hy.2; rwa [w32s_length] at h0
    omega
   refine .allL .here ?_
   refine .fact .here (fun hy => ?_)
   obtain ⟨rfl, hy2, hy3, hy4⟩ := hy
   rw [w32s_length] at hy3 hy4
   refine .skip (TQ.then (.seq (.block (.draw (H := [.row g _ _]) (.q 0 (.q 1 (.q 2 (.q 3 (.q 5 (.q 6 (.q 7 (.e 4 (.e 8 (.q 9 (.q 10 (.e 11 .done)))))))))))) (by kernel_rfl) .pk (by kernel_rfl) (by kernel_rfl) (by kernel_rfl) ?_))))
   refine .v rfl (.move rfl) (.v rfl (.move rfl) (.v rfl (.nilCheck rfl) (.v rfl (.field fo_168_0_WSha2 rfl) (.v rfl (.move rfl) (.v rfl (.toArrPtr underlying170 rfl (by rw [w32s_length]; omega)) ?_)))))
   refine .v rfl (.loadAgg (vs := w32s (l1.take 16)) isAgg170 sizeOf170 rfl .tk (wl_take hy2 (by omega)) (by rw [w32s_length]; simp; omega)) ?_
   refine .eff rfl (fun fu_ li_ hk_ hs_ hl_ => ?_)
   refine .v (.loadAgg (vs := [_, _, _, _, _, _, _, _]) isAgg24 sizeOf24 rfl .tk (by rfl) (by rfl)) ?_
   refine .nil (TS.back hk_ hs_ hl_ .pk ?_)
   refine .eff rfl (fun fu_ li_ hk_ hs_ hl_ => ?_)
   refine .call call96 (S_sha_Block (s := st1) (b := l1.take 16) (by simp; omega)) rfl .pk rfl (fun x52 hx52 => ?_)
   refine .nil (TS.back hk_ hs_ hl_ .pk ?_)
   refine .v rfl (.nilCheck rfl) (.v rfl (.field fo_168_0_WSha2 rfl) (.eff rfl (fun fu_ li_ hk_ hs_ hl_ => ?_)))
   refine .storeAggTo (us := [_, _, _, _, _, _, _, _]) (new := [w32 (st1.block (l1.take 16)).a, w32 (st1.block (l1.take 16)).b, w32 (st1.block (l1.take 16)).c, w32 (st1.block (l1.take 16)).d, w32 (st1.block (l1.take 16)).e, w32 (st1.block (l1.take 16)).f, w32 (st1.block (l1.take 16)).g, w32 (st1.block (l1.take 16)).h, i64 (n + us.length), v]) sizeOf24 rfl rfl rfl rfl .up rfl (by simp) ?_
   refine .nil (TS.back hk_ hs_ hl_ .pk ?_)
   refine .done (.blk_normal (TQ.then (.region (.v (.move rfl) (.v (.sliceLoAny underlying31 sizeOf23 rfl rfl (by rw [w32s_length]; omega)) ?_)))))
   refine .v (.assign rfl) (.nil ?_)
   have hwin : (lr.drop (if cap = (16 : Int).toNat then off else off + (16 : Int).toNat * 1)).take (w32s (l1.drop 16)).length = w32s (l1.drop 16) ∧ (if cap = (16 : Int).toNat then off else off + (16 : Int).toNat * 1) + (w32s (l1.drop 16)).length ≤ lr.length := by
    by_cases hc : cap = (16 : Int).toNat
    ·
     rw [if_pos hc, w32s_length, List.length_drop, show l1.length - 16 = 0 by have : (16 : Int).toNat = 16 := rfl; omega]
     refine ⟨?_, by omega⟩
     rw [List.take_zero, List.drop_eq_nil_of_le (by have : (16 : Int).toNat = 16 := rfl; omega)]; rfl
    ·
     rw [if_neg hc]
     exact ⟨wl_drop hy2 (by omega), by rw [w32s_length, List.length_drop]; show off + 16 * 1 + _ ≤ _; omega⟩
   refine .next ⟨(st1.block (l1.take 16), l1.drop 16, .slice (some ⟨g, if cap = (16 : Int).toNat then off else off + (16 : Int).toNat * 1, none⟩) ((w32s l1).length - (16 : Int).toNat) (cap - (16 : Int).toNat)), putAll_step hp (by omega), rfl⟩ (by simp only [List.length_drop]; omega) .st (Ent.trans (Ent.perm (M := [.row g lr _]) .pk) (Ent.trans (WinV.row (T := 23) (g := g) (l := lr) (off := if cap = (16 : Int).toNat then off else off + (16 : Int).toNat * 1) (cap := cap - (16 : Int).toNat) (us := w32s (l1.drop 16)) (n := (w32s l1).length - (16 : Int).toNat) (by rw [w32s_length, w32s_length, List.length_drop]; rfl) (by rw [show (w32s l1).length - (16 : Int).toNat = (w32s (l1.drop 16)).length by rw [w32s_length, w32s_length, List.length_drop]; rfl]; exact hwin.1) (by rw [show (w32s l1).length - (16 : Int).toNat = (w32s (l1.drop 16)).length by rw [w32s_length, w32s_length, List.length_drop]; rfl]; exact hwin.2) (by rw [w32s_length]; have : (16 : Int).toNat = 16 := rfl; omega)) .en))
  ·
   obtain ⟨⟨st1, l1, v1⟩, hp, hv1⟩ := x
   dsimp only at h2 hp hv1 ⊢
   rw [w32s_length] at h2
   have hq : putAll st ws us = (st1, l1) := by rw [hp]; exact putAll_few (by simp; omega)
   refine .exit (.then_exit (.then_exit (.blk_hit (TQ.then (.ent (GSl.emp (E := 23) (k := 1)) ?_)))))
   refine .region (.v (.move rfl) (.v (.move rfl) (.appendR (v := .slice none 0 0) (A := WinV 23 v1 (w32s l1)) Rd.win underlying31 typeInfo23 rfl rfl rfl rfl rfl rfl .tk .tk w32s_cells (by simp only [t23]; rw [w32s_length]; omega) rfl (fun v57 hv57 => ?_))))
   refine .v (.nilCheck rfl) (.v (.field fo_168_2_WSha2 rfl) (.store sizeOf31 rfl rfl hv57 .up (by rfl) ?_))
   refine .nil ?_
   have he : Dig.add ⟨st, n, ws⟩ us = ⟨st1, n + us.length, l1⟩ := by rw [Dig.add, if_neg (by dsimp only; omega)]; dsimp only; rw [hq]
   rw [he]
   rw [show GSl 23 1 v57 (0 + (w32s l1).length) ([] ++ w32s l1) = GSl 23 1 v57 l1.length (w32s l1) from by rw [Nat.zero_add, List.nil_append, w32s_length]]
   exact .ret0 (.inr rfl) rfl () rfl trivial (Ent.trans (DigA.fin (D := ⟨st1, n + us.length, l1⟩) ⟨by dsimp only; omega, by dsimp only; omega, by dsimp only; omega⟩ .pk) .en)

set_option maxHeartbeats 1000000 in
theorem S_sha_Digest_end {AK0 : Assn} {d : Nat} {D : Dig} {last : W} {long : Nat} (hK0 : Tab AK0 0 := by assumption) : Spec prog 193 [ptr d, w32 last, .int .u64 (long : Int)].toArray [DigA d D, AK0] (fun _ : Unit => True) (fun _ => (D.fin last long).val) (fun _ => [DigA d D, AK0]) := by
 refine DigA.open (fun hD v => ?_)
 obtain ⟨st, n, ws⟩ := D
 obtain ⟨hn0, hn1, hw⟩ := hD
 dsimp only at hn0 hn1 hw ⊢
 refine Spec.body func193 rfl ntmps193 rfl (fun σ R => ?_)
 refine .seq (.region (.alloc zeroValue24 rfl rfl (fun b6 => ?_)))
 refine .nil (TQ.then (.seq (.shpG .tk (fun hS => ?_))))
 refine .draw (H := [.row d _ _]) (.q 0 (.q 1 (.q 2 (.q 3 (.q 4 (.q 5 (.q 6 (.q 7 (.q 8 (.q 9 (.q 10 (.q 11 (.q 12 (.q 13 (.q 14 (.q 15 (.e 16 (.e 17 (.q 18 .done))))))))))))))))))) (by kernel_rfl) .pk (by kernel_rfl) (by kernel_rfl) (by kernel_rfl) ?_
 refine .v rfl (.move rfl) (.v rfl (.nilCheck rfl) (.v rfl (.field fo_168_2_WSha2 rfl) (.v rfl (.load isAgg31 rfl .tk (by rfl)) ?_)))
 refine .v rfl (.move rfl) (.v rfl (.nilCheck rfl) (.v rfl (.field fo_168_2_WSha2 rfl) (.v rfl (.load isAgg31 rfl .tk (by rfl)) ?_)))
 refine .v rfl (.lenS underlying31 rfl hS) ?_
 refine .v rfl (.move rfl) (.v rfl (.nilCheck rfl) (.v rfl (.field fo_168_2_WSha2 rfl) (.v rfl (.load isAgg31 rfl .tk (by rfl)) ?_)))
 refine .v rfl (.lenS underlying31 rfl hS) ?_
 refine .v rfl (.sliceCapS underlying31 sizeOf23 rfl hS rfl rfl) ?_
 refine .v rfl (.move rfl) (.eff rfl (fun fu_ li_ hk_ hs_ hl_ => ?_))
 refine .buildSlice (zs := [.int .u32 0]) (cs := [_]) underlying31 sizeOf23 zeroValue23 rfl rfl rfl (by kernel_rfl) rfl rfl (fun b25 => ?_)
 refine .nil (TS.back hk_ hs_ hl_ .pk ?_)
 refine .eff rfl (fun fu_ li_ hk_ hs_ hl_ => ?_)
 refine .appendCG (A := .row b25 [w32 last] 23) (us := [w32 last]) (Rd.row rfl rfl (Nat.le_refl _)) (by simp) underlying31 typeInfo23 rfl rfl rfl rfl rfl rfl .tk .tk rfl (by simp only [t23, List.length_cons, List.length_nil]; omega) rfl (fun v26 hv26 => ?_)
 refine .nil (TS.back hk_ hs_ hl_ .pk ?_)
 refine .v rfl (.assign rfl) (.done (TQ.then (.seq (.block ?_))))
 refine .loop (X := {x : Nat × Value // x.1 ≤ padZ (ws.length + 1) ∧ isCell x.2 = true}) (s0 := [(0, _), (2, _), (6, _)]) (fun x => [(7, x.1.2)]) (fun x => [GSl 23 1 x.1.2 (ws.length + 1 + x.1.1) (w32s (ws ++ [last] ++ List.replicate x.1.1 0))]) (fun x => padZ (ws.length + 1) - x.1.1) ⟨(0, v26), Nat.zero_le _, hv26⟩ .st (by rw [show w32s (ws ++ [last] ++ List.replicate 0 0) = w32s ws ++ [w32 last] from by simp [w32s]]; exact .pk) (fun x => ?_)
 refine .seq (.seq (.region (.v (.move rfl) (.v (.lenG underlying31 rfl .tk) ?_))))
 refine .v (.rem64 rfl rfl (by omega)) ?_
 refine .v (.neq rfl rfl) (.nil (TQ.then ?_))
 first | refine .cond_dec rfl (fun h1 => ?_) (fun h1 => ?_) | refine .cond rfl (fun h1 => ?_) (fun h1 => ?_)
 ·
  obtain ⟨⟨k, v1⟩, hk, hv1⟩ := x
  dsimp only at hk hv1 h1 ⊢
  refine .skip (TQ.then (.block (.region (.v (.move rfl) (.buildSlice (zs := [.int .u32 0]) (cs := [_]) underlying31 sizeOf23 zeroValue23 rfl rfl rfl (by kernel_rfl) rfl rfl (fun b32 => ?_))))))
  refine .appendR (A := .row b32 [w32 0#32] 23) (us := [w32 0#32]) (Rd.row rfl rfl (Nat.le_refl _)) underlying31 typeInfo23 rfl rfl rfl rfl rfl rfl .tk .tk rfl (by unfold padZ at hk; simp only [t23, List.length_cons, List.length_nil]; omega) rfl (fun v33 hv33 => ?_)
  refine .v (.assign rfl) (.nil (.blk_normal ?_))
  rw [show GSl 23 1 v33 (ws.length + 1 + k + [w32 0#32].length) (w32s (ws ++ [last] ++ List.replicate k 0) ++ [w32 0#32]) = GSl 23 1 v33 (ws.length + 1 + (k + 1)) (w32s (ws ++ [last] ++ List.replicate (k + 1) 0)) from by rw [← rep_snoc, ← List.append_assoc, w32s_append (a := ws ++ [last] ++ List.replicate k 0)]; rfl]
  exact .next ⟨(k + 1, v33), by unfold padZ at hk ⊢; simp only; omega, hv33⟩ (by unfold padZ at hk ⊢; simp only; omega) .st .en
 ·
  obtain ⟨⟨k, v1⟩, hk, hv1⟩ := x
  dsimp only at hk hv1 h1 ⊢
  obtain rfl : k = padZ (ws.length + 1) := by unfold padZ at hk ⊢; omega
  have hlk : ws.length + 1 + padZ (ws.length + 1) ≤ 32 := by unfold padZ; omega
  refine .exit (.then_exit (.then_exit (.blk_hit (TQ.then (.seq (.region (.v (.move rfl) (.v (.move rfl) (.v (.shrU64 (k := 32) (by decide) rfl rfl) ?_)))))))))
  refine .v (.conv_u64_32 underlying171 underlying23 rfl) ?_
  refine .v (.move rfl) (.v (.conv_u64_32 underlying171 underlying23 rfl) ?_)
  refine .buildSlice (zs := [.int .u32 0, .int .u32 0]) (cs := [_, _]) underlying31 sizeOf23 zeroValue23 rfl rfl rfl (by kernel_rfl) rfl rfl (fun b40 => ?_)
  refine .appendR (A := .row b40 [w32 (BitVec.ofInt 32 ((long / 2 ^ 32 : Nat) : Int)), w32 (BitVec.ofInt 32 (long : Int))] 23) (us := [_, _]) (Rd.row rfl rfl (Nat.le_refl _)) underlying31 typeInfo23 rfl rfl rfl rfl rfl rfl .tk .tk rfl (by simp only [t23, List.length_cons, List.length_nil]; omega) rfl (fun v41 hv41 => ?_)
  refine .v (.assign rfl) (.nil (TQ.then (.seq ?_)))
  rw [show GSl 23 1 v41 (ws.length + 1 + padZ (ws.length + 1) + [w32 (BitVec.ofInt 32 ((long / 2 ^ 32 : Nat) : Int)), w32 (BitVec.ofInt 32 (long : Int))].length) _ = GSl 23 1 v41 (padTo (ws ++ [last]) long).length (w32s (padTo (ws ++ [last]) long)) from padTo_gsl]
  refine .ent (Ent.trans (Ent.perm (M := [GSl _ _ _ _ _]) .pk) GSl.win) ?_
  have hpm := @padTo_mod (ws ++ [last]) long
  obtain ⟨pl, hpl⟩ : ∃ pl, padTo (ws ++ [last]) long = pl := ⟨_, rfl⟩
  rw [hpl] at hpm ⊢
  refine .region (.v (.move rfl) (.v (.nilCheck rfl) (.v (.field fo_168_0_WSha2 rfl) (.v (.loadAgg (vs := [_, _, _, _, _, _, _, _]) isAgg24 sizeOf24 rfl .tk (by rfl) (by rfl)) ?_))))
  refine .alloc zeroValue24 rfl rfl (fun b8 => ?_)
  refine .storeAll (us := [_, _, _, _, _, _, _, _]) sizeOf24 rfl rfl rfl rfl .up rfl ?_
  refine .nil (TQ.then (.seq (.block (.loop (X := {x : S8 × List W × Value // putAll st [] pl = putAll x.1 [] x.2.1 ∧ isCell x.2.2 = true ∧ x.2.1.length % 16 = 0}) (s0 := [(6, _), (8, _)]) (fun x => [(7, x.1.2.2)]) (fun x => [.row b8 [w32 x.1.1.a, w32 x.1.1.b, w32 x.1.1.c, w32 x.1.1.d, w32 x.1.1.e, w32 x.1.1.f, w32 x.1.1.g, w32 x.1.1.h] 24, WinV 23 x.1.2.2 (w32s x.1.2.1)]) (fun x => x.1.2.1.length) ⟨(st, pl, v41), rfl, hv41, hpm⟩ .st .pk (fun x => ?_)))))
  refine .seq (.seq (.region (.v (.move rfl) (.v (.lenRd underlying31 rfl .tk Rd.win) ?_))))
  refine .v (.gtr rfl rfl) (.nil (TQ.then ?_))
  first | refine .cond_dec rfl (fun h2 => ?_) (fun h2 => ?_) | refine .cond rfl (fun h2 => ?_) (fun h2 => ?_)
  ·
   obtain ⟨⟨st1, l1, v1⟩, hp, hv1, hl1⟩ := x
   dsimp only at h2 hp hv1 hl1 ⊢
   rw [w32s_length] at h2
   replace h2 : 16 ≤ l1.length := by omega
   refine .ent (Ent.perm (M := [WinV _ _ _]) .pk) ?_
   refine .ex .here (fun y => ?_)
   rcases y with _ | ⟨g, off, cap, lr⟩
   ·
    refine .fact .here (fun hy => ?_)
    exfalso; have hy0 : l1.length = 0 := by have h0 := congrArg List.length hy.2; rwa [w32s_length] at h0
    omega
   refine .allL .here ?_
   refine .fact .here (fun hy => ?_)
   obtain ⟨rfl, hy2, hy3, hy4⟩ := hy
   rw [w32s_length] at hy3 hy4
   refine .skip (TQ.then (.seq (.block (.draw (H := [.row g _ _]) (.q 1 (.q 2 (.q 3 (.e 0 (.e 4 (.e 5 .done)))))) (by kernel_rfl) .pk (by kernel_rfl) (by kernel_rfl) (by kernel_rfl) ?_))))
   refine .v rfl (.move rfl) (.v rfl (.toArrPtr underlying170 rfl (by rw [w32s_length]; omega)) ?_)
   refine .v rfl (.loadAgg (vs := w32s (l1.take 16)) isAgg170 sizeOf170 rfl .tk (wl_take hy2 (by omega)) (by rw [w32s_length]; simp; omega)) ?_
   refine .eff rfl (fun fu_ li_ hk_ hs_ hl_ => ?_)
   refine .v (.loadAgg (vs := [_, _, _, _, _, _, _, _]) isAgg24 sizeOf24 rfl .tk (by rfl) (by rfl)) ?_
   refine .nil (TS.back hk_ hs_ hl_ .pk ?_)
   refine .eff rfl (fun fu_ li_ hk_ hs_ hl_ => ?_)
   refine .call call96 (S_sha_Block (s := st1) (b := l1.take 16) (by simp; omega)) rfl .pk rfl (fun x55 hx55 => ?_)
   refine .nil (TS.back hk_ hs_ hl_ .pk ?_)
   refine .eff rfl (fun fu_ li_ hk_ hs_ hl_ => ?_)
   refine .storeAll (us := [_, _, _, _, _, _, _, _]) sizeOf24 rfl rfl rfl rfl .up rfl ?_
   refine .nil (TS.back hk_ hs_ hl_ .pk ?_)
   refine .done (.blk_normal (TQ.then (.region (.v (.move rfl) (.v (.sliceLoAny underlying31 sizeOf23 rfl rfl (by rw [w32s_length]; omega)) ?_)))))
   refine .v (.assign rfl) (.nil ?_)
   have hwin : (lr.drop (if cap = (16 : Int).toNat then off else off + (16 : Int).toNat * 1)).take (w32s (l1.drop 16)).length = w32s (l1.drop 16) ∧ (if cap = (16 : Int).toNat then off else off + (16 : Int).toNat * 1) + (w32s (l1.drop 16)).length ≤ lr.length := by
    by_cases hc : cap = (16 : Int).toNat
    ·
     rw [if_pos hc, w32s_length, List.length_drop, show l1.length - 16 = 0 by have : (16 : Int).toNat = 16 := rfl; omega]
     refine ⟨?_, by omega⟩
     rw [List.take_zero, List.drop_eq_nil_of_le (by have : (16 : Int).toNat = 16 := rfl; omega)]; rfl
    ·
     rw [if_neg hc]
     exact ⟨wl_drop hy2 (by omega), by rw [w32s_length, List.length_drop]; show off + 16 * 1 + _ ≤ _; omega⟩
   refine .next ⟨(st1.block (l1.take 16), l1.drop 16, .slice (some ⟨g, if cap = (16 : Int).toNat then off else off + (16 : Int).toNat * 1, none⟩) ((w32s l1).length - (16 : Int).toNat) (cap - (16 : Int).toNat)), putAll_step hp (by omega), rfl, by simp only [List.length_drop]; omega⟩ (by simp only [List.length_drop]; omega) .st (Ent.trans (Ent.perm (M := [.row g lr _]) .pk) (Ent.trans (WinV.row (T := 23) (g := g) (l := lr) (off := if cap = (16 : Int).toNat then off else off + (16 : Int).toNat * 1) (cap := cap - (16 : Int).toNat) (us := w32s (l1.drop 16)) (n := (w32s l1).length - (16 : Int).toNat) (by rw [w32s_length, w32s_length, List.length_drop]; rfl) (by rw [show (w32s l1).length - (16 : Int).toNat = (w32s (l1.drop 16)).length by rw [w32s_length, w32s_length, List.length_drop]; rfl]; exact hwin.1) (by rw [show (w32s l1).length - (16 : Int).toNat = (w32s (l1.drop 16)).length by rw [w32s_length, w32s_length, List.length_drop]; rfl]; exact hwin.2) (by rw [w32s_length]; have : (16 : Int).toNat = 16 := rfl; omega)) .en))
  ·
   obtain ⟨⟨st1, l1, v1⟩, hp, hv1, hl1⟩ := x
   dsimp only at h2 hp hv1 hl1 ⊢
   rw [w32s_length] at h2
   obtain rfl : l1 = [] := List.eq_nil_of_length_eq_zero (by omega)
   refine .exit (.then_exit (.then_exit (.blk_hit (TQ.then (.seq (.region (.v (.loadAgg (vs := [_, _, _, _, _, _, _, _]) isAgg24 sizeOf24 rfl .tk (by rfl) (by rfl)) ?_)))))))
   refine .storeAll (us := [_, _, _, _, _, _, _, _]) sizeOf24 rfl rfl rfl rfl .up rfl ?_
   refine .nil (TQ.then (.ret ?_))
   have e : Dig.fin ⟨st, n, ws⟩ last long = st1 := by unfold Dig.fin; dsimp only; rw [hpl, hp]; rfl
   exact .ret results193 (.agg isAgg24 sizeOf24 rfl .tk (by rfl) (by rfl) .nil) () (by rw [e]; rfl) trivial (Ent.trans (DigA.fin (D := ⟨st, n, ws⟩) ⟨hn0, hn1, hw⟩ .pk) .en)

set_option maxHeartbeats 400000 in
theorem S_sha_Digest_Sum {AK0 : Assn} {d : Nat} {D : Dig} (hK0 : Tab AK0 0 := by assumption) : Spec prog 182 [ptr d].toArray [DigA d D, AK0] (fun _ : Unit => True) (fun _ => D.sum.val) (fun _ => [DigA d D, AK0]) := by
 refine DigA.open (fun hD v => ?_)
 obtain ⟨st, n, ws⟩ := D
 obtain ⟨hn0, hn1, hw⟩ := hD
 dsimp only at hn0 hn1 hw ⊢
 refine Spec.body func182 rfl ntmps182 rfl (fun σ R => ?_)
 refine .seq (.region (.alloc zeroValue24 rfl rfl (fun b2 => ?_)))
 refine .nil (TQ.then (.seq (.region (.v (.move rfl) (.v (.move rfl) (.v (.nilCheck rfl) (.v (.field fo_168_1_WSha2 rfl) (.v (.load isAgg2 rfl .tk (by rfl)) ?_))))))))
 refine .v (.conv_i64_u64 underlying2 underlying171 rfl) ?_
 refine .v (show Val _ _ _ _ (.int .u64 ((32 * n.toNat : Nat) : Int)) from by rw [show ((32 * n.toNat : Nat) : Int) = 32 * (n % 18446744073709551616) by omega]; exact Val.mulU64 rfl rfl (by omega)) ?_
 refine .ent (DigA.fin (D := ⟨st, n, ws⟩) ⟨hn0, hn1, hw⟩ .pk) ?_
 refine .call call193 (S_sha_Digest_end (D := ⟨st, n, ws⟩) (last := 0x80000000#32) (long := 32 * n.toNat)) rfl .pk rfl (fun x10 hx10 => ?_)
 refine .storeAll (us := [_, _, _, _, _, _, _, _]) sizeOf24 rfl rfl rfl rfl .up rfl ?_
 refine .nil (TQ.then (.ret ?_))
 exact .ret results182 (.agg isAgg24 sizeOf24 rfl .tk (by rfl) (by rfl) .nil) () rfl trivial .en

set_option maxHeartbeats 400000 in
theorem S_sha_Digest_Copy {d : Nat} {D : Dig} : Spec prog 183 [ptr d].toArray [DigA d D] (fun x : Nat => True) (fun x => ptr x) (fun x => [DigA x D, DigA d D]) := by
 refine DigA.open (fun hD v => ?_)
 obtain ⟨st, n, ws⟩ := D
 obtain ⟨hn0, hn1, hw⟩ := hD
 dsimp only at hn0 hn1 hw ⊢
 refine Spec.body func183 rfl ntmps183 rfl (fun σ R => ?_)
 refine .seq (.region (.v (.assign rfl) (.nil (TQ.then (.seq (.shpG .tk (fun hS => ?_)))))))
 refine .region (.v (.move rfl) (.v (.nilCheck rfl) (.v (.loadAgg (vs := [_, _, _, _, _, _, _, _, _, _]) isAgg168 sizeOf168 rfl .tk (by rfl) (by rfl)) ?_)))
 refine .alloc zeroValue168 rfl rfl (fun b3 => ?_)
 refine .storeAll (us := [_, _, _, _, _, _, _, _, _, _]) sizeOf168 rfl rfl (by simp only [List.all_cons, hS.cell, List.all_nil, Bool.and_true]; rfl) rfl .up rfl ?_
 refine .nil (TQ.then (.seq (.ent (GSl.emp (E := 23) (k := 1)) ?_)))
 refine .region (.v (.move rfl) (.v (.nilCheck rfl) (.v (.field fo_168_2_WSha2 rfl) (.v (.load isAgg31 rfl .tk (by rfl)) ?_))))
 refine .appendR (v := .slice none 0 0) (A := GSl 23 1 v ws.length (w32s ws)) Rd.gsl underlying31 typeInfo23 rfl rfl rfl rfl rfl rfl .tk .tk w32s_cells (by simp only [t23]; rw [w32s_length]; omega) rfl (fun v11 hv11 => ?_)
 refine .v (.field fo_168_2_WSha2 rfl) (.store sizeOf31 rfl rfl hv11 .up (by rfl) ?_)
 refine .nil (TQ.then (.seq (.region (.v (.assign rfl) (.nil (TQ.then (.ret ?_)))))))
 exact .ret results183 (.tmp rfl .nil) b3 (by first | rfl | simp [tup, *]) trivial (by rw [show GSl 23 1 v11 (0 + (w32s ws).length) ([] ++ w32s ws) = GSl 23 1 v11 ws.length (w32s ws) from by rw [Nat.zero_add, List.nil_append, w32s_length]]; exact Ent.trans (DigA.fin (d := d) (D := ⟨st, n, ws⟩) (v := v) ⟨hn0, hn1, hw⟩ .pk) (Ent.trans (DigA.fin (d := b3) (D := ⟨st, n, ws⟩) (v := v11) ⟨hn0, hn1, hw⟩ .pk) .en))

set_option maxHeartbeats 1000000 in
theorem S_sha_Digest_Save {d : Nat} {D : Dig} : Spec prog 68 [ptr d].toArray [DigA d D] (fun _ : Unit => True) (fun _ => .agg (w32s D.save).toArray) (fun _ => [DigA d D]) := by
 refine DigA.open (fun hD v => ?_)
 obtain ⟨st, n, ws⟩ := D
 obtain ⟨hn0, hn1, hw⟩ := hD
 dsimp only at hn0 hn1 hw ⊢
 refine Spec.body func68 rfl ntmps68 rfl (fun σ R => ?_)
 refine .seq (.region (.alloc (zs := w32s (List.replicate 26 0)) zeroValue120 (by kernel_rfl) rfl (fun b2 => ?_)))
 refine .nil (TQ.then (.seq (.region (.alloc (zs := w32s (List.replicate 26 0)) zeroValue120 (by kernel_rfl) rfl (fun b3 => ?_)))))
 refine .nil (TQ.then (.seq (.draw (H := []) (.q 0 (.q 1 (.q 2 (.q 3 (.q 4 (.e 5 .done)))))) (by kernel_rfl) .pk (by kernel_rfl) (by kernel_rfl) (by kernel_rfl) ?_)))
 refine .v rfl (.sliceArrHi underlying120 sizeOf23 rfl rfl (by omega)) ?_
 refine .v rfl (.move rfl) (.v rfl (.nilCheck rfl) (.v rfl (.field fo_168_0_WSha2 rfl) (.v rfl (.sliceArr underlying24 sizeOf23 rfl) ?_)))
 refine .eff rfl (fun fu_ li_ hk_ hs_ hl_ => ?_)
 refine .copyRow (k := 8) (us := w32s st.ws) (new := w32s (st.ws ++ List.replicate 18 0)) underlying31 sizeOf23 rfl rfl rfl .tk rfl rfl w32s_cells .up rfl (by rw [w32s_length]; decide) rfl rfl ?_
 refine .nil (TS.back hk_ hs_ hl_ .pk ?_)
 refine .done (TQ.then (.seq (.draw (H := [.row d _ _]) (.q 0 (.q 1 (.q 2 (.q 3 (.q 4 (.q 5 (.q 6 (.q 7 (.q 8 (.q 9 (.q 10 (.q 11 (.q 12 (.e 13 (.q 14 (.e 15 .done)))))))))))))))) (by kernel_rfl) .pk (by kernel_rfl) (by kernel_rfl) (by kernel_rfl) ?_)))
 refine .v rfl (.move rfl) (.v rfl (.nilCheck rfl) (.v rfl (.field fo_168_1_WSha2 rfl) (.v rfl (.load isAgg2 rfl .tk (by rfl)) ?_)))
 refine .v rfl (.conv_i64_u64 underlying2 underlying171 rfl) ?_
 refine .v rfl (show Val _ _ _ _ (.int .u64 ((n.toNat / 2 ^ 32 : Nat) : Int)) from by refine Val.shrU64 (k := 32) (by decide) ?_ rfl; exact (show _ = some (Value.int .u64 (n.toNat : Int)) from by rw [show (n.toNat : Int) = n % 18446744073709551616 by omega]; rfl)) ?_
 refine .v rfl (.conv_u64_32 underlying171 underlying23 rfl) ?_
 refine .v rfl (.move rfl) (.v rfl (.nilCheck rfl) (.v rfl (.field fo_168_1_WSha2 rfl) (.v rfl (.load isAgg2 rfl .tk (by rfl)) ?_)))
 refine .v rfl (.conv_64_32 underlying2 underlying23 rfl) ?_
 refine .v rfl (.ixArr1 underlying120 sizeOf23 rfl rfl (by omega)) ?_
 refine .eff rfl (fun fu_ li_ hk_ hs_ hl_ => ?_)
 refine .storeTo (new := w32s ((st.ws ++ List.replicate 18 0).set 8 (hiW n.toNat))) sizeOf23 rfl rfl rfl .up (by rw [BitVec.ofInt_natCast]; exact w32s_set) (by rw [w32s_length]; show 8 < 26; decide) ?_
 refine .nil (TS.back hk_ hs_ hl_ .pk ?_)
 refine .v rfl (.ixArr1 underlying120 sizeOf23 rfl rfl (by omega)) ?_
 refine .eff rfl (fun fu_ li_ hk_ hs_ hl_ => ?_)
 refine .storeTo (new := w32s (((st.ws ++ List.replicate 18 0).set 8 (hiW n.toNat)).set 9 (loW n.toNat))) sizeOf23 rfl rfl rfl .up (by rw [show BitVec.ofInt 32 n = loW n.toNat from by rw [loW, ← BitVec.ofInt_natCast]; congr 1; omega]; exact w32s_set) (by rw [w32s_length]; show 9 < 26; decide) ?_
 refine .nil (TS.back hk_ hs_ hl_ .pk ?_)
 refine .done (TQ.then (.seq ?_))
 rw [show ((st.ws ++ List.replicate 18 (0 : W)).set 8 (hiW n.toNat)).set 9 (loW n.toNat) = st.ws ++ [hiW n.toNat, loW n.toNat] ++ List.replicate 16 0 from rfl]
 have hsl := Dig.save_len (D := ⟨st, n, ws⟩) ⟨hn0, hn1, hw⟩
 refine .draw (H := [.row d _ _]) (.q 0 (.q 1 (.q 2 (.q 3 (.q 4 (.e 5 .done)))))) (by kernel_rfl) .pk (by kernel_rfl) (by kernel_rfl) (by kernel_rfl) ?_
 refine .v rfl (.sliceArrLo underlying120 sizeOf23 rfl rfl (by omega)) ?_
 refine .v rfl (.move rfl) (.v rfl (.nilCheck rfl) (.v rfl (.field fo_168_2_WSha2 rfl) (.v rfl (.load isAgg31 rfl .tk (by rfl)) ?_)))
 refine .eff rfl (fun fu_ li_ hk_ hs_ hl_ => ?_)
 refine .copyRd (A := GSl 23 1 v ws.length (w32s ws)) (new := w32s (Dig.save ⟨st, n, ws⟩)) Rd.gsl underlying31 sizeOf23 rfl rfl .tk (by rw [w32s_length]; show ws.length ≤ 16; omega) w32s_cells .up (save_cells hw) (by rw [w32s_length, w32s_length]; show 0 + 10 * 1 + ws.length ≤ 26; omega) rfl rfl ?_
 refine .nil (TS.back hk_ hs_ hl_ .pk ?_)
 refine .done (TQ.then (.seq (.region (.v (.loadAgg (vs := w32s (Dig.save ⟨st, n, ws⟩)) isAgg120 sizeOf120 rfl .tk (words_whole hsl) (w32s_length.trans hsl)) ?_))))
 refine .storeAll (us := w32s (Dig.save ⟨st, n, ws⟩)) sizeOf120 rfl rfl w32s_cells (w32s_length.trans hsl) .up (by rw [w32s_length, List.length_replicate]) ?_
 refine .nil (TQ.then (.ret ?_))
 exact .ret results68 (.agg (us := w32s (Dig.save ⟨st, n, ws⟩)) isAgg120 sizeOf120 rfl .tk (words_whole hsl) (w32s_length.trans hsl) .nil) () rfl trivial (Ent.trans (DigA.fin (D := ⟨st, n, ws⟩) ⟨hn0, hn1, hw⟩ .pk) .en)

set_option maxHeartbeats 400000 in
theorem S_sha_Sum {AK0 : Assn} {us : List W} {u : Value} {A : Assn} (hR : Rd A u (w32s us)) (hu : us.length ≤ 1099511627776) (hK0 : Tab AK0 0 := by assumption) : Spec prog 189 [u].toArray [AK0, A] (fun _ : Unit => True) (fun _ => (Dig.new.add us).sum.val) (fun _ => [AK0, A]) := by
 refine Spec.body func189 rfl ntmps189 rfl (fun σ R => ?_)
 refine .seq (.region (.alloc zeroValue24 rfl rfl (fun b2 => ?_)))
 refine .nil (TQ.then (.seq (.region (.call call64 (S_sha_NewD) rfl .pk rfl (fun x4 hx4 => ?_)))))
 refine .v (.assign rfl) (.nil (TQ.then (.seq (.region (.v (.move rfl) (.v (.move rfl) (.call call66 (S_sha_Digest_Add (D := Dig.new) hR hu) rfl .pk rfl (fun x7 hx7 => ?_))))))))
 refine .nil (TQ.then (.seq (.region (.v (.move rfl) (.call call182 (S_sha_Digest_Sum (D := Dig.new.add us)) rfl .pk rfl (fun x9 hx9 => ?_))))))
 refine .storeAll (us := [_, _, _, _, _, _, _, _]) sizeOf24 rfl rfl rfl rfl .up rfl ?_
 refine .nil (TQ.then (.ret ?_))
 exact .ret results189 (.agg isAgg24 sizeOf24 rfl .tk (by rfl) (by rfl) .nil) () rfl trivial .en
end Go.Wd
