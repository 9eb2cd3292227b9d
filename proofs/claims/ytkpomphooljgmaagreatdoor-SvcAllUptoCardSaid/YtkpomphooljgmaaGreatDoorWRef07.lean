/- PROVED HERE: contracts of functions of the program, walked: each returns what the plain model says, for all items that its precondition names. No condition beyond each theorem's own. -/
import Derived.Test.YtkpomphooljgmaaGreatDoorProg
import Derived.Test.YtkpomphooljgmaaGreatDoorModel
import Derived.Test.YtkpomphooljgmaaGreatDoorPk
import Derived.Test.YtkpomphooljgmaaGreatDoorMRef07
import Derived.Test.YtkpomphooljgmaaGreatDoorBase5
namespace Go.Wd
open Go Go.Proofs Go.Proofs.Tryz
abbrev RMh (m b N cap : Nat) (S meter : Int) (os : List (Option Nat)) (j : List Value) : List Assn :=
 [.row m [.slice (some ⟨b, 0, none⟩) N cap, i64 S, i64 meter] 100, .row b (os.map osl ++ j) 31]
abbrev RPs (os : List (Option Nat)) (gs : List (List W)) : Assn := zipA (rpage 23) os gs
structure RMx (M : Mem) (os : List (Option Nat)) (N cap : Nat) : Prop where
 len : os.length = N
 all : N = M.sec.length + M.ins.length
 most : M.sec.length ≤ 64 ∧ M.ins.length ≤ 64
 cap : N ≤ cap
def RMemA (m : Nat) (M : Mem) : Assn := .ex fun x : Nat × Nat × Nat × List (Option Nat) × List Value => .all (.fact (RMx M x.2.2.2.1 x.2.1 x.2.2.1) :: (RMh m x.1 x.2.1 x.2.2.1 M.sec.length M.meter x.2.2.2.1 x.2.2.2.2 ++ [RPs x.2.2.2.1 M.all]))
theorem RMemA.open {m : Nat} {M : Mem} {f : FuncId} {args : Array Value} {pre : List Assn} {X : Type} {q : X → Prop} {ret : X → Value} {post : X → List Assn}
  (h : ∀ b N cap os j, RMx M os N cap → RPok os M.all → Spec prog f args (RPs os M.all :: (RMh m b N cap M.sec.length M.meter os j ++ pre)) q ret post) : Spec prog f args (RMemA m M :: pre) q ret post :=
 Spec.exL fun x => Spec.allL (Spec.factL fun hl => Spec.ent (Ent.pick (M := RPs x.2.2.2.1 M.all :: (RMh m x.1 x.2.1 x.2.2.1 M.sec.length M.meter x.2.2.2.1 x.2.2.2.2 ++ pre)) (.cons (.there (.there .here)) (.cons .here (.cons .here Pick.refl)))) (Spec.ent RPs_facts (Spec.factL fun hz => h x.1 x.2.1 x.2.2.1 x.2.2.2.1 x.2.2.2.2 hl hz)))
theorem RMemA.fin' {L rest : List Assn} {m b N cap : Nat} {M : Mem} {S meter : Int} {os : List (Option Nat)} {j : List Value} {gs : List (List W)} (hS : S = M.sec.length) (hm : meter = M.meter) (hg : gs = M.all) (hp : Pick L (RMh m b N cap S meter os j ++ [RPs os gs]) rest) (hx : RMx M os N cap) : Ent L (RMemA m M :: rest) := by
 subst hm; subst hg; subst hS
 exact Ent.trans (Ent.perm hp) (Ent.trans (Ent.factR hx) (Ent.trans (Ent.allR (M := .fact (RMx M os N cap) :: (RMh m b N cap M.sec.length M.meter os j ++ [RPs os M.all])) (L := rest))
  (Ent.exR (A := fun x : Nat × Nat × Nat × List (Option Nat) × List Value => .all (.fact (RMx M x.2.2.2.1 x.2.1 x.2.2.1) :: (RMh m x.1 x.2.1 x.2.2.1 M.sec.length M.meter x.2.2.2.1 x.2.2.2.2 ++ [RPs x.2.2.2.1 M.all]))) (b, N, cap, os, j))))
theorem RMemA.fin {L rest : List Assn} {m b N cap : Nat} {M : Mem} {S meter : Int} {os : List (Option Nat)} {j : List Value} {gs : List (List W)} (hS : S = M.sec.length) (hm : meter = M.meter) (hg : gs = M.all) (hp : Pick L (RMh m b N cap S meter os j ++ [RPs os gs]) rest) (hx : RMx M os N cap) : Ent L [RMemA m M] :=
 Ent.trans (RMemA.fin' hS hm hg hp hx) (Ent.pick (.cons .here .nil))
theorem RMx.len' {M : Mem} {os : List (Option Nat)} {N cap : Nat} (h : RMx M os N cap) : os.length = M.all.length := by rw [h.len, h.all]; simp [Mem.all]
theorem RMx.get {M : Mem} {os : List (Option Nat)} {N cap : Nat} (h : RMx M os N cap) (s : Bool) (p : Int) : ∃ o, 0 ≤ M.idx s p → os[(M.idx s p).toNat]? = some o ∧ M.all[(M.idx s p).toNat]? = some (M.page s p) ∧ (M.idx s p).toNat < N ∧ M.has s p :=
 ⟨(os[(M.idx s p).toNat]?).getD none, fun hi => by
  have hh := Mem.idx_has.1 hi
  have h1 := (Mem.idx_lt hh).2
  have h2 := h.len'
  have h3 := h.len
  exact ⟨by rw [List.getElem?_eq_getElem (by omega)]; rfl, Mem.all_page hh, by omega, hh⟩⟩

theorem fo_78_0_WRef07 : FieldOff prog 78 0 0 := FieldOff.of 4 1 underlying78 rfl sizeOf4 rfl
theorem fo_78_1_WRef07 : FieldOff prog 78 1 1 := FieldOff.of 3 1 underlying78 rfl sizeOf3 rfl
theorem fo_100_0_WRef07 : FieldOff prog 100 0 0 := FieldOff.of 25 1 underlying100 rfl sizeOf25 rfl
theorem fo_100_1_WRef07 : FieldOff prog 100 1 1 := FieldOff.of 3 1 underlying100 rfl sizeOf3 rfl
set_option maxHeartbeats 400000 in
theorem S_wardenref07_Memory_place {m b N cap : Nat} {M : Mem} (hN : N = M.sec.length + M.ins.length) (hm : M.sec.length ≤ 64 ∧ M.ins.length ≤ 64) {sec : Bool} {pg : Int} : Spec prog 73 [ptr m, .agg #[.bool sec, i64 pg]].toArray [.row m [.slice (some ⟨b, 0, none⟩) N cap, i64 M.sec.length, i64 M.meter] 100] (fun _ : Unit => True) (fun _ => i64 (M.idx sec pg)) (fun _ => [.row m [.slice (some ⟨b, 0, none⟩) N cap, i64 M.sec.length, i64 M.meter] 100]) := by
 refine Spec.body func73 rfl ntmps73 rfl (fun σ R => ?_)
 refine .seq (.region (.box (vs := [_, _]) rfl rfl rfl (fun b3 => ?_)))
 refine .v (.assign rfl) (.nil (TQ.then (.seq (.seq (.region (.v (.field fo_78_1_WRef07 rfl) (.v (.load isAgg3 rfl .tk (by rfl)) ?_)))))))
 refine .v (.lss rfl rfl) (.nil (TQ.then ?_))
 first | refine .cond_dec rfl (fun h1 => ?_) (fun h1 => ?_) | refine .cond rfl (fun h1 => ?_) (fun h1 => ?_)
 ·
  refine .seq (.region (.v (.assign rfl) (.nil (TQ.then (.ret (.then_ret ?_))))))
  exact .ret results73 (.tmp rfl .nil) () (congrArg i64 (if_neg (fun c => by have := c.1; omega))) trivial .en
 ·
  refine .skip (TQ.then (.seq (.seq (.region (.v (.field fo_78_0_WRef07 rfl) (.v (.load isAgg4 rfl .tk (by rfl)) ?_))))))
  refine .nil (TQ.then ?_)
  first | refine .cond_dec rfl (fun h2 => ?_) (fun h2 => ?_) | refine .cond rfl (fun h2 => ?_) (fun h2 => ?_)
  ·
   subst h2
   refine .seq (.seq (.draw (H := [.row b3 _ _, .row m _ _]) (.q 0 (.q 1 (.q 2 (.q 3 (.q 4 (.q 5 (.q 6 .done))))))) (by kernel_rfl) .pk (by kernel_rfl) (by kernel_rfl) (by kernel_rfl) ?_))
   refine .v rfl (.field fo_78_1_WRef07 rfl) (.v rfl (.load isAgg3 rfl .tk (by rfl)) ?_)
   refine .v rfl (.move rfl) (.v rfl (.nilCheck rfl) (.v rfl (.field fo_100_1_WRef07 rfl) (.v rfl (.load isAgg3 rfl .tk (by rfl)) ?_)))
   refine .v rfl (.lss rfl rfl) (.done (TQ.then ?_))
   first | refine .cond_dec rfl (fun h3 => ?_) (fun h3 => ?_) | refine .cond rfl (fun h3 => ?_) (fun h3 => ?_)
   ·
    refine .seq (.region (.v (.field fo_78_1_WRef07 rfl) (.v (.load isAgg3 rfl .tk (by rfl)) ?_)))
    refine .v (.assign rfl) (.nil (TQ.then (.ret (.then_ret (.then_ret ?_)))))
    exact .ret results73 (.tmp rfl .nil) () (congrArg i64 (if_pos (show M.has true pg from ⟨by omega, h3⟩))) trivial .en
   ·
    refine .skip (TQ.then (.seq (.region (.v (.assign rfl) (.nil (TQ.then (.ret (.then_ret ?_))))))))
    exact .ret results73 (.tmp rfl .nil) () (congrArg i64 (if_neg (fun c => h3 c.2))) trivial .en
  ·
   subst h2
   refine .skip (TQ.then (.seq (.seq (.draw (H := [.row b3 _ _, .row m _ _]) (.q 0 (.q 1 (.q 2 (.q 3 (.q 4 (.q 5 (.q 6 (.q 7 (.q 8 (.q 9 (.q 10 (.q 11 (.q 12 .done))))))))))))) (by kernel_rfl) .pk (by kernel_rfl) (by kernel_rfl) (by kernel_rfl) ?_))))
   refine .v rfl (.field fo_78_1_WRef07 rfl) (.v rfl (.load isAgg3 rfl .tk (by rfl)) ?_)
   refine .v rfl (.move rfl) (.v rfl (.nilCheck rfl) (.v rfl (.field fo_100_0_WRef07 rfl) (.v rfl (.load isAgg25 rfl .tk (by rfl)) ?_)))
   refine .v rfl (.len underlying25 rfl) ?_
   refine .v rfl (.move rfl) (.v rfl (.nilCheck rfl) (.v rfl (.field fo_100_1_WRef07 rfl) (.v rfl (.load isAgg3 rfl .tk (by rfl)) ?_)))
   refine .v rfl (.sub64 rfl rfl (by omega)) ?_
   refine .v rfl (.lss rfl rfl) (.done (TQ.then ?_))
   first | refine .cond_dec rfl (fun h3 => ?_) (fun h3 => ?_) | refine .cond rfl (fun h3 => ?_) (fun h3 => ?_)
   ·
    refine .seq (.draw (H := [.row b3 _ _, .row m _ _]) (.q 0 (.q 1 (.q 2 (.q 3 (.q 4 (.q 5 (.q 6 (.q 7 .done)))))))) (by kernel_rfl) .pk (by kernel_rfl) (by kernel_rfl) (by kernel_rfl) ?_)
    refine .v rfl (.move rfl) (.v rfl (.nilCheck rfl) (.v rfl (.field fo_100_1_WRef07 rfl) (.v rfl (.load isAgg3 rfl .tk (by rfl)) ?_)))
    refine .v rfl (.field fo_78_1_WRef07 rfl) (.v rfl (.load isAgg3 rfl .tk (by rfl)) ?_)
    refine .v rfl (.add64 rfl rfl (by omega)) ?_
    refine .v rfl (.assign rfl) (.done (TQ.then (.ret (.then_ret ?_))))
    exact .ret results73 (.tmp rfl .nil) () (congrArg i64 (if_pos (show M.has false pg from ⟨by omega, by simp only [Mem.pgs]; omega⟩))) trivial .en
   ·
    refine .skip (TQ.then (.seq (.region (.v (.assign rfl) (.nil (TQ.then (.ret ?_)))))))
    exact .ret results73 (.tmp rfl .nil) () (congrArg i64 (if_neg (fun c => by have := c.2; simp only [Mem.pgs] at this; omega))) trivial .en

set_option maxHeartbeats 400000 in
theorem S_wardenref07_Memory_Has {m : Nat} {M : Mem} {sec : Bool} {pg : Int} : Spec prog 148 [ptr m, .agg #[.bool sec, i64 pg]].toArray [RMemA m M] (fun _ : Unit => True) (fun _ => .bool (decide (M.has sec pg))) (fun _ => [RMemA m M]) := by
 refine RMemA.open (fun b N cap os j hx hz => ?_)
 have hlen := hx.len
 have hN := hx.all
 have hm := hx.most
 have hcap := hx.cap
 refine Spec.body func148 rfl ntmps148 rfl (fun σ R => ?_)
 refine .seq (.region (.box (vs := [_, _]) rfl rfl rfl (fun b3 => ?_)))
 refine .v (.assign rfl) (.nil (TQ.then (.seq (.region (.v (.move rfl) (.v (.loadAgg (vs := [_, _]) isAgg78 sizeOf78 rfl .tk (by rfl) (by rfl)) ?_))))))
 refine .call call73 (S_wardenref07_Memory_place hN hm) rfl .pk rfl (fun x7 hx7 => ?_)
 refine .v (.geq rfl rfl) (.v (.assign rfl) (.nil (TQ.then (.ret ?_))))
 exact .ret results148 (.tmp rfl .nil) () (congrArg Value.bool (decide_eq_decide.2 Mem.idx_has.symm)) trivial (RMemA.fin rfl rfl rfl .pk hx)

set_option maxHeartbeats 400000 in
theorem S_wardenref07_Memory_Secure {m : Nat} {M : Mem} : Spec prog 52 [ptr m].toArray [RMemA m M] (fun _ : Unit => True) (fun _ => i64 M.sec.length) (fun _ => [RMemA m M]) := by
 refine RMemA.open (fun b N cap os j hx hz => ?_)
 have hlen := hx.len
 have hN := hx.all
 have hm := hx.most
 have hcap := hx.cap
 refine Spec.body func52 rfl ntmps52 rfl (fun σ R => ?_)
 refine .seq (.region (.v (.assign rfl) (.nil (TQ.then (.seq (.region (.v (.move rfl) (.v (.nilCheck rfl) (.v (.field fo_100_1_WRef07 rfl) (.v (.load isAgg3 rfl .tk (by rfl)) ?_))))))))))
 refine .v (.assign rfl) (.nil (TQ.then (.ret ?_)))
 exact .ret results52 (.tmp rfl .nil) () (rfl) trivial (RMemA.fin rfl rfl rfl .pk hx)

set_option maxHeartbeats 400000 in
theorem S_wardenref07_Memory_Peek {m : Nat} {M : Mem} {sec : Bool} {pg : Int} {off : Int} : Spec prog 48 [ptr m, .agg #[.bool sec, i64 pg], i64 off].toArray [RMemA m M] (fun _ : Unit => True) (fun _ => w32 (M.peek sec pg off)) (fun _ => [RMemA m M]) := by
 refine RMemA.open (fun b N cap os j hx hz => ?_)
 have hlen := hx.len
 have hN := hx.all
 have hm := hx.most
 have hcap := hx.cap
 refine Spec.body func48 rfl ntmps48 rfl (fun σ R => ?_)
 refine .seq (.region (.box (vs := [_, _]) rfl rfl rfl (fun b4 => ?_)))
 refine .v (.assign (v := w32 0#32) rfl) (.nil (TQ.then (.seq (.region (.v (.move rfl) (.v (.loadAgg (vs := [_, _]) isAgg78 sizeOf78 rfl .tk (by rfl) (by rfl)) ?_))))))
 refine .call call73 (S_wardenref07_Memory_place hN hm) rfl .pk rfl (fun x10 hx10 => ?_)
 refine .v (.assign rfl) (.nil (TQ.then (.seq (.seq ?_))))
 obtain ⟨o, ho⟩ := hx.get sec pg
 refine .region (.v (.move rfl) (.v (.lss rfl rfl) (.v (.move rfl) ?_)))
 refine' TL.orG (k := 3) (dj := 13) (d := 16) rfl ?_ ?_ ?_
 rotate_left
 ·
  intro g16 hd
  first | replace g16 := of_decide_eq_false g16 | skip
  refine .want rfl rfl (.v (.move rfl) (.want rfl rfl (.v (.lss rfl rfl) (.v (.pick_false rfl rfl) (.nil ?_)))))
  exact .keep (Sub.cons rfl (Sub.push rfl (Sub.push rfl (Sub.push rfl (Sub.pushSame hd Sub.rfl')))))
 ·
  intro g16 hd
  refine .skip rfl rfl rfl (.skip rfl rfl rfl (.v (.pick_true rfl rfl) (.nil ?_)))
  exact .keep (Sub.cons rfl (Sub.push rfl (Sub.push rfl (Sub.push rfl (Sub.pushSame hd Sub.rfl')))))
 first | refine .boolOr ?_ | skip
 refine .v (.move rfl) ?_
 refine' TL.orG (k := 3) (dj := 17) (d := 20) rfl ?_ ?_ ?_
 rotate_left
 ·
  intro g20 hd
  first | replace g20 := of_decide_eq_false g20 | skip
  refine .want rfl rfl (.v (.move rfl) (.want rfl rfl (.v (.geq rfl rfl) (.v (.pick_false rfl rfl) (.nil ?_)))))
  exact .keep (Sub.cons rfl (Sub.push rfl (Sub.push rfl (Sub.push rfl (Sub.pushSame hd Sub.rfl')))))
 ·
  intro g20 hd
  refine .skip rfl rfl rfl (.skip rfl rfl rfl (.v (.pick_true rfl rfl) (.nil ?_)))
  exact .keep (Sub.cons rfl (Sub.push rfl (Sub.push rfl (Sub.push rfl (Sub.pushSame hd Sub.rfl')))))
 first | refine .boolOr ?_ | skip
 refine .v (.move rfl) ?_
 refine' TL.orG (k := 10) (dj := 21) (d := 31) rfl ?_ ?_ ?_
 rotate_left
 ·
  intro g31 hd
  first | replace g31 := of_decide_eq_false g31 | skip
  have hq := ho (by omega)
  refine .want rfl rfl (.v (.move rfl) (.want rfl rfl (.v (.nilCheck rfl) (.want rfl rfl (.v (.field fo_100_0_WRef07 rfl) (.want rfl rfl (.v (.load isAgg25 rfl .tk (by rfl)) ?_)))))))
  refine .want rfl rfl (.v (.move rfl) (.want rfl rfl (.v (.ixSlice1 underlying25 sizeOf31 rfl rfl (by omega)) ?_)))
  refine .want rfl rfl ?_
  refine .v (.load isAgg31 rfl .tk (by rw [Nat.zero_add]; exact osl_get (ho (by omega)).1)) ?_
  refine .want rfl rfl (.v (.len underlying31 rfl) ?_)
  refine .want rfl rfl (.v (.eql rfl rfl) (.v (.pick_false rfl rfl) (.nil ?_)))
  exact .keep (Sub.cons rfl (Sub.push rfl (Sub.push rfl (Sub.push rfl (Sub.push rfl (Sub.push rfl (Sub.push rfl (Sub.push rfl (Sub.push rfl (Sub.push rfl (Sub.push rfl (Sub.pushSame hd Sub.rfl'))))))))))))
 ·
  intro g31 hd
  refine .skip rfl rfl rfl (.skip rfl rfl rfl (.skip rfl rfl rfl (.skip rfl rfl rfl (.skip rfl rfl rfl (.skip rfl rfl rfl (.skip rfl rfl rfl (.skip rfl rfl rfl (.skip rfl rfl rfl (.v (.pick_true rfl rfl) (.nil ?_))))))))))
  exact .keep (Sub.cons rfl (Sub.push rfl (Sub.push rfl (Sub.push rfl (Sub.push rfl (Sub.push rfl (Sub.push rfl (Sub.push rfl (Sub.push rfl (Sub.push rfl (Sub.push rfl (Sub.pushSame hd Sub.rfl'))))))))))))
 first | refine .boolOr ?_ | skip
 refine .nil (TQ.then ?_)
 first | refine .cond_dec rfl (fun h1 => ?_) (fun h1 => ?_) | refine .cond rfl (fun h1 => ?_) (fun h1 => ?_)
 ·
  refine .seq (.region (.v (.assign (v := w32 0#32) rfl) (.nil (TQ.then (.ret (.then_ret ?_))))))
  have e : M.peek sec pg off = 0 := by
   unfold Mem.peek
   split
   ·
    rename_i he
    obtain ⟨h2, h3, h4⟩ := errW_zero.1 he
    have h5 := Mem.idx_has.2 h2
    obtain ⟨hq1, hq2, hq3, hh⟩ := ho h5
    have ho2 : o = none := by
     cases o with
     | none => rfl
     | some p => simp [olen] at h1; omega
    have hzz := (hz _ _ _ hq1 hq2).2 ho2
    unfold Mem.get
    rw [hzz]
    unfold zpage; rw [List.getElem?_replicate, if_pos (by omega)]; rfl
   ·
    rfl
  exact .ret results48 (.tmp rfl .nil) () (by rw [e]; rfl) trivial (RMemA.fin rfl rfl rfl .pk hx)
 ·
  refine .skip (TQ.then (.seq ?_))
  simp at h1
  obtain ⟨p, rfl⟩ : ∃ p, o = some p := by cases o; exact absurd rfl h1.2; exact ⟨_, rfl⟩
  obtain ⟨hq1, hq2, hq3, hh⟩ := ho (by omega)
  have hgl := (hz _ _ _ hq1 hq2).1
  refine .ent (Ent.trans (Ent.perm (M := [RPs os M.all]) .pk) (RPs_open hq1 hq2)) ?_
  refine .region (.v (.move rfl) (.v (.nilCheck rfl) (.v (.field fo_100_0_WRef07 rfl) (.v (.load isAgg25 rfl .tk (by rfl)) ?_))))
  refine .v (.move rfl) (.v (.ixSlice1 underlying25 sizeOf31 rfl rfl (by omega)) ?_)
  refine .v (.load isAgg31 rfl .tk (by rw [Nat.zero_add]; exact osl_get (ho (by omega)).1)) ?_
  refine .v (.move rfl) (.v (.ixSlice1 underlying31 sizeOf23 rfl rfl (by simp only [olen]; omega)) ?_)
  refine .v (.load isAgg23 rfl .tk (w32s_get (by rw [Nat.zero_add]; exact word_get hgl (by omega)))) ?_
  refine .v (.assign rfl) (.nil (TQ.then (.ret (.ent (Ent.sub (M := [.row p _ _, holeZ _ _ _ _]) .pk (RPs_back hq1 hq2 hgl)) ?_))))
  have e : M.peek sec pg off = ((M.page sec pg)[off.toNat]?).getD 0 := peek_ok (errW_zero.2 ⟨hh, by omega, by omega⟩) (by rw [← Mem.all_get hh]; exact hq2)
  exact .ret results48 (.tmp rfl .nil) () (by rw [e]; rfl) trivial (RMemA.fin rfl rfl rfl .pk hx)

theorem fo_100_2_WRef07 : FieldOff prog 100 2 2 := FieldOff.of 2 1 underlying100 rfl sizeOf2 rfl
set_option maxHeartbeats 400000 in
theorem S_wardenref07_Memory_Read {m : Nat} {M : Mem} {sec : Bool} {pg : Int} {off : Int} : Spec prog 114 [ptr m, .agg #[.bool sec, i64 pg], i64 off].toArray [RMemA m M] (fun _ : Unit => True) (fun _ => .tuple #[w32 (M.read sec pg off).1, i64 (M.read sec pg off).2.1]) (fun _ => [RMemA m (M.read sec pg off).2.2]) := by
 refine Spec.body func114 rfl ntmps114 rfl (fun σ R => ?_)
 refine .seq (.region (.box (vs := [_, _]) rfl rfl rfl (fun b4 => ?_)))
 refine .v (.assign (v := w32 0#32) rfl) (.v (.assign rfl) (.nil (TQ.then (.seq (.seq (.region (.v (.move rfl) (.v (.loadAgg (vs := [_, _]) isAgg78 sizeOf78 rfl .tk (by rfl) (by rfl)) ?_))))))))
 refine .call call148 (S_wardenref07_Memory_Has) rfl .pk rfl (fun x10 hx10 => ?_)
 refine .v (by first | exact Val.not_dec rfl | exact Val.not rfl) ?_
 refine .nil (TQ.then ?_)
 first | refine .cond_dec rfl (fun h1 => ?_) (fun h1 => ?_) | refine .cond rfl (fun h1 => ?_) (fun h1 => ?_)
 ·
  refine .seq (.region (.v (.assign (v := w32 0#32) rfl) (.v (.assign rfl) (.nil (TQ.then (.ret (.then_ret ?_)))))))
  have e := Mem.read_page (o := off) h1
  exact .ret results114 (.tmp rfl (.tmp rfl .nil)) () (by rw [e]; rfl) trivial (by rw [e]; exact .en)
 ·
  refine .skip (TQ.then (.seq (.seq (.region (.v (.move rfl) (.v (.lss rfl rfl) (.v (.move rfl) ?_)))))))
  refine' TL.orG (k := 3) (dj := 14) (d := 17) rfl ?_ ?_ ?_
  rotate_left
  ·
   intro g17 hd
   first | replace g17 := of_decide_eq_false g17 | skip
   refine .want rfl rfl (.v (.move rfl) (.want rfl rfl (.v (.geq rfl rfl) (.v (.pick_false rfl rfl) (.nil ?_)))))
   exact .keep (Sub.cons rfl (Sub.push rfl (Sub.push rfl (Sub.push rfl (Sub.pushSame hd Sub.rfl')))))
  ·
   intro g17 hd
   refine .skip rfl rfl rfl (.skip rfl rfl rfl (.v (.pick_true rfl rfl) (.nil ?_)))
   exact .keep (Sub.cons rfl (Sub.push rfl (Sub.push rfl (Sub.push rfl (Sub.pushSame hd Sub.rfl')))))
  first | refine .boolOr ?_ | skip
  refine .nil (TQ.then ?_)
  first | refine .cond_dec rfl (fun h2 => ?_) (fun h2 => ?_) | refine .cond rfl (fun h2 => ?_) (fun h2 => ?_)
  ·
   refine .seq (.region (.v (.assign (v := w32 0#32) rfl) (.v (.assign rfl) (.nil (TQ.then (.ret (.then_ret ?_)))))))
   have e := Mem.read_off (o := off) (Classical.byContradiction h1) (by omega)
   exact .ret results114 (.tmp rfl (.tmp rfl .nil)) () (by rw [e]; rfl) trivial (by rw [e]; exact .en)
  ·
   refine .skip (TQ.then (.seq (.ent (Ent.perm (M := [RMemA m M]) .pk) ?_)))
   refine .ex .here (fun x => ?_)
   refine .allL .here ?_
   refine .fact .here (fun hx => ?_)
   obtain ⟨b, N, cap, os, j⟩ := x
   dsimp only at hx ⊢
   refine .region (.v (.move rfl) (.v (.nilCheck rfl) (.v (.field fo_100_2_WRef07 rfl) (.v (.load isAgg2 rfl .tk (by rfl)) ?_))))
   refine .v (.add rfl rfl) ?_
   refine .v (.nilCheck rfl) (.v (.field fo_100_2_WRef07 rfl) (.store sizeOf2 rfl rfl rfl .up (by rfl) ?_))
   refine .nil (TQ.then (.seq (.ent (RMemA.fin' (M := M.tick 1) (rest := [_]) rfl rfl rfl .pk ⟨hx.len, hx.all, hx.most, hx.cap⟩) ?_)))
   refine .region (.v (.move rfl) (.v (.loadAgg (vs := [_, _]) isAgg78 sizeOf78 rfl .tk (by rfl) (by rfl)) ?_))
   refine .v (.move rfl) (.call call48 (S_wardenref07_Memory_Peek) rfl .pk rfl (fun x28 hx28 => ?_))
   refine .v (.assign rfl) (.v (.assign rfl) (.nil (TQ.then (.ret ?_))))
   have he : M.errW sec pg off = 0 := errW_zero.2 ⟨Classical.byContradiction h1, by omega, by omega⟩
   have e : M.read sec pg off = (M.get sec pg off, 0, M.tick 1) := by unfold Mem.read; rw [if_pos he]
   have e2 : (M.tick 1).peek sec pg off = M.get sec pg off := by unfold Mem.peek; exact if_pos he
   exact .ret results114 (.tmp rfl (.tmp rfl .nil)) () (by rw [e, e2]; rfl) trivial (by rw [e]; exact .en)

set_option maxHeartbeats 400000 in
theorem S_wardenref07_Memory_Write {m : Nat} {M : Mem} {sec : Bool} {pg : Int} {off : Int} {v : W} : Spec prog 36 [ptr m, .agg #[.bool sec, i64 pg], i64 off, w32 v].toArray [RMemA m M] (fun _ : Unit => True) (fun _ => i64 (M.write sec pg off v).1) (fun _ => [RMemA m (M.write sec pg off v).2]) := by
 refine RMemA.open (fun b N cap os j hx hz => ?_)
 have hlen := hx.len
 have hN := hx.all
 have hm := hx.most
 have hcap := hx.cap
 refine Spec.body func36 rfl ntmps36 rfl (fun σ R => ?_)
 refine .seq (.region (.box (vs := [_, _]) rfl rfl rfl (fun b5 => ?_)))
 refine .v (.assign rfl) (.nil (TQ.then (.seq (.region (.v (.move rfl) (.v (.loadAgg (vs := [_, _]) isAgg78 sizeOf78 rfl .tk (by rfl) (by rfl)) ?_))))))
 refine .call call73 (S_wardenref07_Memory_place hN hm) rfl .pk rfl (fun x12 hx12 => ?_)
 refine .v (.assign rfl) (.nil (TQ.then (.seq (.seq ?_))))
 obtain ⟨o, ho⟩ := hx.get sec pg
 have hsx := @Mem.idx_has M sec pg
 refine .region (.v (.move rfl) (.v (.lss rfl rfl) (.nil (TQ.then ?_))))
 first | refine .cond_dec rfl (fun h1 => ?_) (fun h1 => ?_) | refine .cond rfl (fun h1 => ?_) (fun h1 => ?_)
 ·
  refine .seq (.region (.v (.assign rfl) (.nil (TQ.then (.ret (.then_ret ?_))))))
  have e2 := Mem.write_page (o := off) (v := v) (fun c => by have := hsx.2 c; omega : ¬ M.has sec pg)
  exact .ret results36 (.tmp rfl .nil) () (by rw [e2]; rfl) trivial (by rw [e2]; exact (RMemA.fin rfl rfl rfl .pk hx))
 ·
  obtain ⟨hq1, hq2, hq3, hh⟩ := ho (by omega)
  refine .skip (TQ.then (.seq (.seq (.region (.v (.move rfl) (.v (.lss rfl rfl) (.v (.move rfl) ?_)))))))
  refine' TL.orG (k := 3) (dj := 17) (d := 20) rfl ?_ ?_ ?_
  rotate_left
  ·
   intro g20 hd
   first | replace g20 := of_decide_eq_false g20 | skip
   refine .want rfl rfl (.v (.move rfl) (.want rfl rfl (.v (.geq rfl rfl) (.v (.pick_false rfl rfl) (.nil ?_)))))
   exact .keep (Sub.cons rfl (Sub.push rfl (Sub.push rfl (Sub.push rfl (Sub.pushSame hd Sub.rfl')))))
  ·
   intro g20 hd
   refine .skip rfl rfl rfl (.skip rfl rfl rfl (.v (.pick_true rfl rfl) (.nil ?_)))
   exact .keep (Sub.cons rfl (Sub.push rfl (Sub.push rfl (Sub.push rfl (Sub.pushSame hd Sub.rfl')))))
  first | refine .boolOr ?_ | skip
  refine .nil (TQ.then ?_)
  first | refine .cond_dec rfl (fun h2 => ?_) (fun h2 => ?_) | refine .cond rfl (fun h2 => ?_) (fun h2 => ?_)
  ·
   refine .seq (.region (.v (.assign rfl) (.nil (TQ.then (.ret (.then_ret ?_))))))
   have e2 := Mem.write_off (o := off) (v := v) hh (by omega)
   exact .ret results36 (.tmp rfl .nil) () (by rw [e2]; rfl) trivial (by rw [e2]; exact (RMemA.fin rfl rfl rfl .pk hx))
  ·
   have he : M.errW sec pg off = 0 := errW_zero.2 ⟨hh, by omega, by omega⟩
   have e2 : M.write sec pg off v = (0, (M.tick 1).setPage sec pg ((M.page sec pg).set off.toNat v)) := by unfold Mem.write; rw [if_pos he]; rfl
   have hgl := (hz _ _ _ hq1 hq2).1
   have hol := (List.getElem?_eq_some_iff.1 hq1).1
   have hgl2 := (List.getElem?_eq_some_iff.1 hq2).1
   refine .skip (TQ.then (.seq (.region (.v (.move rfl) (.v (.nilCheck rfl) (.v (.field fo_100_2_WRef07 rfl) (.v (.load isAgg2 rfl .tk (by rfl)) ?_)))))))
   refine .v (.add rfl rfl) ?_
   refine .v (.nilCheck rfl) (.v (.field fo_100_2_WRef07 rfl) (.store sizeOf2 rfl rfl rfl .up (by rfl) ?_))
   refine .nil (TQ.then (.seq (.seq (.region (.v (.move rfl) (.v (.nilCheck rfl) (.v (.field fo_100_0_WRef07 rfl) (.v (.load isAgg25 rfl .tk (by rfl)) ?_))))))))
   refine .v (.move rfl) (.v (.ixSlice1 underlying25 sizeOf31 rfl rfl (by omega)) ?_)
   refine .v (.load isAgg31 rfl .tk (by rw [Nat.zero_add]; exact osl_get (ho (by omega)).1)) ?_
   refine .v (.len underlying31 rfl) ?_
   refine .v (.eql rfl rfl) (.nil (TQ.then ?_))
   first | refine .cond_dec rfl (fun h3 => ?_) (fun h3 => ?_) | refine .cond rfl (fun h3 => ?_) (fun h3 => ?_)
   ·
    obtain rfl : o = none := by
     cases o with
     | none => rfl
     | some p => cases h3
    refine .ent (Ent.sub (M := [RPs os M.all]) .pk (zipA_split _ hq1 hq2)) ?_
    have hg0 := (hz _ _ _ hq1 hq2).2 rfl
    refine .draw (H := [.row m _ _]) (.q 0 (.q 1 (.q 2 (.q 3 (.q 4 (.e 5 (.q 6 (.e 7 .done)))))))) (by kernel_rfl) .pk (by kernel_rfl) (by kernel_rfl) (by kernel_rfl) ?_
    refine .v rfl (.move rfl) (.v rfl (.nilCheck rfl) (.v rfl (.field fo_100_0_WRef07 rfl) (.v rfl (.load isAgg25 rfl .tk (by rfl)) ?_)))
    refine .v rfl (.move rfl) (.eff rfl (fun fu_ li_ hk_ hs_ hl_ => ?_))
    refine .make underlying31 typeInfo23 rfl rfl rfl rfl rfl (by omega) (by simp only [t23]; omega) (by omega) rfl (fun b42 => ?_)
    refine .nil (TS.back hk_ hs_ hl_ .pk ?_)
    refine .v rfl (.ixSlice1 underlying25 sizeOf31 rfl rfl (by omega)) ?_
    refine .eff rfl (fun fu_ li_ hk_ hs_ hl_ => ?_)
    refine .store sizeOf31 rfl rfl rfl .up (Nat.ble_eq_true_of_le (by simp; omega)) ?_
    refine .nil (TS.back hk_ hs_ hl_ .pk ?_)
    refine .done (TQ.then (.seq ?_))
    rw [show (List.map osl os ++ j).set (0 + (M.idx sec pg).toNat) (Value.slice (some ⟨b42, 0, none⟩) (Int.toNat 1024) (Int.toNat 1024)) = (os.set (M.idx sec pg).toNat (some b42)).map osl ++ j from by rw [Nat.zero_add]; exact osl_set (o := some b42) hol]
    rw [show List.replicate (Int.toNat 1024) (Value.int .u32 0) = w32s (M.page sec pg) from by rw [hg0]; unfold w32s zpage; rw [List.map_replicate]; rfl]
    have hq1' : (os.set (M.idx sec pg).toNat (some b42))[(M.idx sec pg).toNat]? = some (some b42) := List.getElem?_set_self hol
    refine .region (.v (.move rfl) (.v (.nilCheck rfl) (.v (.field fo_100_0_WRef07 rfl) (.v (.load isAgg25 rfl .tk (by rfl)) ?_))))
    refine .v (.move rfl) (.v (.ixSlice1 underlying25 sizeOf31 rfl rfl (by omega)) ?_)
    refine .v (.load isAgg31 rfl .tk (by rw [Nat.zero_add]; exact osl_get hq1')) ?_
    refine .v (.move rfl) (.v (.move rfl) (.v (.ixSlice1 underlying31 sizeOf23 rfl rfl (by simp only [olen]; omega)) ?_))
    refine .store sizeOf23 rfl rfl rfl .up (by simp only [w32s_length]; exact Nat.ble_eq_true_of_le (by omega)) ?_
    refine .nil (TQ.then (.seq (.region (.v (.assign rfl) (.nil (TQ.then (.ret ?_)))))))
    rw [show (w32s (M.page sec pg)).set (0 + off.toNat) (w32 v) = w32s ((M.page sec pg).set off.toNat v) from by rw [Nat.zero_add]; exact w32s_set]
    refine .ent (Ent.sub (M := [.row b42 _ _, holeZ _ _ _ _]) .pk (RPs_shut hol hgl2 (by simp [hgl]))) ?_
    have hl := @Mem.setPage_len (M.tick 1) sec pg ((M.page sec pg).set off.toNat v)
    exact .ret results36 (.tmp rfl .nil) () (by rw [e2]; rfl) trivial (by rw [e2]; exact RMemA.fin (N := N) (by rw [hl.1]; try rfl) (by cases sec <;> rfl) (Mem.all_set (M := M.tick 1) hh) .pk ⟨by simp; exact hlen, by rw [hl.1, hl.2]; exact hN, by rw [hl.1, hl.2]; exact hm, hcap⟩)
   ·
    refine .skip (TQ.then (.seq ?_))
    obtain ⟨p, rfl⟩ : ∃ p, o = some p := by cases o; exact absurd rfl h3; exact ⟨_, rfl⟩
    refine .ent (Ent.trans (Ent.perm (M := [RPs os M.all]) .pk) (RPs_open hq1 hq2)) ?_
    refine .region (.v (.move rfl) (.v (.nilCheck rfl) (.v (.field fo_100_0_WRef07 rfl) (.v (.load isAgg25 rfl .tk (by rfl)) ?_))))
    refine .v (.move rfl) (.v (.ixSlice1 underlying25 sizeOf31 rfl rfl (by omega)) ?_)
    refine .v (.load isAgg31 rfl .tk (by rw [Nat.zero_add]; exact osl_get (ho (by omega)).1)) ?_
    refine .v (.move rfl) (.v (.move rfl) (.v (.ixSlice1 underlying31 sizeOf23 rfl rfl (by simp only [olen]; omega)) ?_))
    refine .store sizeOf23 rfl rfl rfl .up (by simp only [w32s_length]; exact Nat.ble_eq_true_of_le (by omega)) ?_
    refine .nil (TQ.then (.seq (.region (.v (.assign rfl) (.nil (TQ.then (.ret ?_)))))))
    rw [show (w32s (M.page sec pg)).set (0 + off.toNat) (w32 v) = w32s ((M.page sec pg).set off.toNat v) from by rw [Nat.zero_add]; exact w32s_set]
    refine .ent (Ent.sub (M := [.row p _ _, holeZ _ _ _ _]) .pk (RPs_shut hol hgl2 (by simp [hgl]))) ?_
    rw [set_same hq1]
    have hl := @Mem.setPage_len (M.tick 1) sec pg ((M.page sec pg).set off.toNat v)
    exact .ret results36 (.tmp rfl .nil) () (by rw [e2]; rfl) trivial (by rw [e2]; exact RMemA.fin (N := N) (by rw [hl.1]; try rfl) (by cases sec <;> rfl) (Mem.all_set (M := M.tick 1) hh) .pk ⟨hlen, by rw [hl.1, hl.2]; exact hN, by rw [hl.1, hl.2]; exact hm, hcap⟩)

set_option maxHeartbeats 400000 in
theorem S_wardenref07_Memory_Zero {m : Nat} {M : Mem} {sec : Bool} {pg : Int} : Spec prog 53 [ptr m, .agg #[.bool sec, i64 pg]].toArray [RMemA m M] (fun _ : Unit => True) (fun _ => i64 (M.zero sec pg).1) (fun _ => [RMemA m (M.zero sec pg).2]) := by
 refine RMemA.open (fun b N cap os j hx hz => ?_)
 have hlen := hx.len
 have hN := hx.all
 have hm := hx.most
 have hcap := hx.cap
 refine Spec.body func53 rfl ntmps53 rfl (fun σ R => ?_)
 refine .seq (.region (.box (vs := [_, _]) rfl rfl rfl (fun b3 => ?_)))
 refine .v (.assign rfl) (.nil (TQ.then (.seq (.region (.v (.move rfl) (.v (.loadAgg (vs := [_, _]) isAgg78 sizeOf78 rfl .tk (by rfl) (by rfl)) ?_))))))
 refine .call call73 (S_wardenref07_Memory_place hN hm) rfl .pk rfl (fun x8 hx8 => ?_)
 refine .v (.assign rfl) (.nil (TQ.then (.seq (.seq ?_))))
 obtain ⟨o, ho⟩ := hx.get sec pg
 have hsx := @Mem.idx_has M sec pg
 refine .region (.v (.move rfl) (.v (.lss rfl rfl) (.nil (TQ.then ?_))))
 first | refine .cond_dec rfl (fun h1 => ?_) (fun h1 => ?_) | refine .cond rfl (fun h1 => ?_) (fun h1 => ?_)
 ·
  refine .seq (.region (.v (.assign rfl) (.nil (TQ.then (.ret (.then_ret ?_))))))
  have e2 : M.zero sec pg = (5, M) := if_neg (fun c => by have := hsx.2 c; omega)
  exact .ret results53 (.tmp rfl .nil) () (by rw [e2]; rfl) trivial (by rw [e2]; exact (RMemA.fin rfl rfl rfl .pk hx))
 ·
  obtain ⟨hq1, hq2, hq3, hh⟩ := ho (by omega)
  have hol := (List.getElem?_eq_some_iff.1 hq1).1
  have e2 : M.zero sec pg = (0, (M.tick 1024).setPage sec pg zpage) := if_pos hh
  refine .skip (TQ.then (.seq (.region (.v (.move rfl) (.v (.move rfl) (.v (.nilCheck rfl) (.v (.field fo_100_2_WRef07 rfl) (.v (.load isAgg2 rfl .tk (by rfl)) ?_))))))))
  refine .v (.add rfl rfl) ?_
  refine .v (.nilCheck rfl) (.v (.field fo_100_2_WRef07 rfl) (.store sizeOf2 rfl rfl rfl .up (by rfl) ?_))
  refine .nil (TQ.then (.seq (.region (.v (.move rfl) (.v (.nilCheck rfl) (.v (.field fo_100_0_WRef07 rfl) (.v (.load isAgg25 rfl .tk (by rfl)) ?_)))))))
  refine .v (.move rfl) (.v (.ixSlice1 underlying25 sizeOf31 rfl rfl (by omega)) ?_)
  refine .store (v := .slice none 0 0) sizeOf31 rfl rfl rfl .up (Nat.ble_eq_true_of_le (by simp; omega)) ?_
  refine .nil (TQ.then (.seq (.region (.v (.assign rfl) (.nil (TQ.then (.ret ?_)))))))
  rw [show (List.map osl os ++ j).set (0 + (M.idx sec pg).toNat) (Value.slice none 0 0) = (os.set (M.idx sec pg).toNat none).map osl ++ j from by rw [Nat.zero_add]; exact osl_set (o := none) hol]
  refine .ent (Ent.sub (M := [RPs os M.all]) .pk (RPs_none hq1 hq2)) ?_
  have hl := @Mem.setPage_len (M.tick 1024) sec pg zpage
  exact .ret results53 (.tmp rfl .nil) () (by rw [e2]; rfl) trivial (by rw [e2]; exact RMemA.fin (N := N) (by rw [hl.1]; try rfl) (by cases sec <;> rfl) (Mem.all_set (M := M.tick 1024) hh) .pk ⟨by simp; exact hlen, by rw [hl.1, hl.2]; exact hN, by rw [hl.1, hl.2]; exact hm, hcap⟩)

theorem pl_100_WRef07 : Places prog 100 [(0, 1), (1, 1), (2, 1)] := ⟨_, underlying100, fun w => by simp [sizeOf2, sizeOf3, sizeOf25]⟩
set_option maxHeartbeats 400000 in
theorem S_wardenref07_New {a b : Nat} (ha : 1 ≤ a ∧ a ≤ 64) (hb : 1 ≤ b ∧ b ≤ 64) : Spec prog 18 [i64 a, i64 b].toArray [] (fun m : Nat => True) (fun m => .tuple #[ptr m, i64 0]) (fun m => [RMemA m (Mem.new a b)]) := by
 refine Spec.body func18 rfl ntmps18 rfl (fun σ R => ?_)
 refine .seq (.region (.v (.assign rfl) (.v (.assign rfl) (.nil (TQ.then (.seq (.seq (.region (.v (.move rfl) (.v (.lss rfl rfl) (.v (.move rfl) ?_)))))))))))
 refine' TL.orG (k := 3) (dj := 10) (d := 13) rfl ?_ ?_ ?_
 rotate_left
 ·
  intro g13 hd
  first | replace g13 := of_decide_eq_false g13 | skip
  refine .want rfl rfl (.v (.move rfl) (.want rfl rfl (.v (.gtr rfl rfl) (.v (.pick_false rfl rfl) (.nil ?_)))))
  exact .keep (Sub.cons rfl (Sub.push rfl (Sub.push rfl (Sub.push rfl (Sub.pushSame hd Sub.rfl')))))
 ·
  intro g13 hd
  refine .skip rfl rfl rfl (.skip rfl rfl rfl (.v (.pick_true rfl rfl) (.nil ?_)))
  exact .keep (Sub.cons rfl (Sub.push rfl (Sub.push rfl (Sub.push rfl (Sub.pushSame hd Sub.rfl')))))
 first | refine .boolOr ?_ | skip
 refine .v (.move rfl) ?_
 refine' TL.orG (k := 3) (dj := 14) (d := 17) rfl ?_ ?_ ?_
 rotate_left
 ·
  intro g17 hd
  first | replace g17 := of_decide_eq_false g17 | skip
  refine .want rfl rfl (.v (.move rfl) (.want rfl rfl (.v (.lss rfl rfl) (.v (.pick_false rfl rfl) (.nil ?_)))))
  exact .keep (Sub.cons rfl (Sub.push rfl (Sub.push rfl (Sub.push rfl (Sub.pushSame hd Sub.rfl')))))
 ·
  intro g17 hd
  refine .skip rfl rfl rfl (.skip rfl rfl rfl (.v (.pick_true rfl rfl) (.nil ?_)))
  exact .keep (Sub.cons rfl (Sub.push rfl (Sub.push rfl (Sub.push rfl (Sub.pushSame hd Sub.rfl')))))
 first | refine .boolOr ?_ | skip
 refine .v (.move rfl) ?_
 refine' TL.orG (k := 3) (dj := 18) (d := 21) rfl ?_ ?_ ?_
 rotate_left
 ·
  intro g21 hd
  first | replace g21 := of_decide_eq_false g21 | skip
  refine .want rfl rfl (.v (.move rfl) (.want rfl rfl (.v (.gtr rfl rfl) (.v (.pick_false rfl rfl) (.nil ?_)))))
  exact .keep (Sub.cons rfl (Sub.push rfl (Sub.push rfl (Sub.push rfl (Sub.pushSame hd Sub.rfl')))))
 ·
  intro g21 hd
  refine .skip rfl rfl rfl (.skip rfl rfl rfl (.v (.pick_true rfl rfl) (.nil ?_)))
  exact .keep (Sub.cons rfl (Sub.push rfl (Sub.push rfl (Sub.push rfl (Sub.pushSame hd Sub.rfl')))))
 first | refine .boolOr ?_ | skip
 refine .nil (TQ.then ?_)
 first | refine .cond_dec rfl (fun h1 => ?_) (fun h1 => ?_) | refine .cond rfl (fun h1 => ?_) (fun h1 => ?_)
 ·
  exfalso; omega
 ·
  refine .skip (TQ.then (.seq (.region (.v (.move rfl) (.v (.build (cs := [_, _, _]) zeroValue100 pl_100_WRef07 rfl rfl) ?_)))))
  refine .box (vs := [_, _, _]) rfl rfl rfl (fun b24 => ?_)
  refine .v (.assign rfl) (.nil (TQ.then (.seq (.seq (.ent (GSl.emp (E := 31) (k := 1)) ?_)))))
  refine .region (.v (.assign rfl) (.nil (TQ.then (.block (.loop (X := {i : Nat // i ≤ a + b} × Value) (s0 := [(0, _), (1, _), (6, _)]) (fun x => [(7, i64 x.1.1)]) (fun x => [.row b24 [x.2, i64 a, i64 0] 100, GSl 31 1 x.2 x.1.1 (List.replicate x.1.1 (Value.slice none 0 0))]) (fun x => a + b - x.1.1) (⟨0, by omega⟩, .slice none 0 0) .st .pk (fun x => ?_))))))
  refine .seq (.seq (.region (.v (.move rfl) (.v (.move rfl) (.v (.move rfl) (.v (.add64 rfl rfl (by omega)) ?_))))))
  refine .v (.lss rfl rfl) (.nil (TQ.then ?_))
  first | refine .cond_dec rfl (fun h2 => ?_) (fun h2 => ?_) | refine .cond rfl (fun h2 => ?_) (fun h2 => ?_)
  ·
   obtain ⟨⟨i, hi⟩, v⟩ := x
   dsimp only at h2 ⊢
   have hlt : i < a + b := by omega
   refine .skip (TQ.then (.seq (.block (.region (.v (.move rfl) (.v (.move rfl) (.v (.nilCheck rfl) (.v (.field fo_100_0_WRef07 rfl) (.v (.load isAgg25 rfl .tk (by rfl)) ?_)))))))))
   refine .buildSlice (zs := [.slice none 0 0]) (cs := [_]) underlying25 sizeOf31 zeroValue31 rfl rfl rfl (by kernel_rfl) rfl rfl (fun b37 => ?_)
   refine .append (k := 1) (us := [.slice none 0 0]) underlying25 typeInfo31 rfl rfl rfl rfl (by decide) rfl rfl .tk .tk (by rfl) (by rfl) rfl (by simp only [t31]; omega) rfl (fun v38 hv38 => ?_)
   refine .v (.nilCheck rfl) (.v (.field fo_100_0_WRef07 rfl) (.store sizeOf25 rfl rfl hv38 .up (by rfl) ?_))
   refine .nil (.blk_normal (TQ.then (.region (.v (.move rfl) (.v (.add64 rfl rfl (by omega)) ?_)))))
   refine .v (.assign rfl) (.nil ?_)
   rw [← List.replicate_succ']
   exact .next (⟨i + 1, by omega⟩, v38) (by dsimp only; omega) .st .en
  ·
   refine .exit (.then_exit (.then_exit (.blk_hit (TQ.then (.seq ?_)))))
   obtain ⟨⟨i, hi⟩, v⟩ := x
   obtain rfl : i = a + b := by dsimp only at h2; omega
   dsimp only
   refine .ent (Ent.trans (Ent.perm (M := [GSl _ _ _ _ _]) .pk) GSl.openE) ?_
   refine .ex .here (fun y => ?_)
   rcases y with _ | ⟨g, cap, jj⟩
   ·
    refine .fact .here (fun hy => ?_)
    exfalso; omega
   refine .allL .here ?_
   refine .fact .here (fun hy => ?_)
   obtain ⟨rfl, hy1, hy2, hy3, hy4⟩ := hy
   refine .region (.v (.move rfl) (.v (.assign rfl) (.v (.assign rfl) (.nil (TQ.then (.ret ?_))))))
   rw [← osl_new]
   refine .ent (RPs_new (U := 23) (n := a + b)) ?_
   refine .ret results18 (.tmp rfl (.tmp rfl .nil)) b24 rfl trivial ?_
   exact RMemA.fin (M := Mem.new a b) (N := a + b) (S := (a : Int)) (meter := 0) (by simp [Mem.new]) rfl Mem.new_all.symm .pk ⟨by simp, by simp [Mem.new], by simp [Mem.new]; omega, hy2⟩
end Go.Wd
