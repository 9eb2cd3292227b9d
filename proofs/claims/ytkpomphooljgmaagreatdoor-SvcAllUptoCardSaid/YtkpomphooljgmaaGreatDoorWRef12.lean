/- PROVED HERE: contracts of functions of the program, walked: each returns what the plain model says, for all items that its precondition names. No condition beyond each theorem's own. -/
import Derived.Test.YtkpomphooljgmaaGreatDoorProg
import Derived.Test.YtkpomphooljgmaaGreatDoorModel
import Derived.Test.YtkpomphooljgmaaGreatDoorPk
import Derived.Test.YtkpomphooljgmaaGreatDoorMRef12
import Derived.Test.YtkpomphooljgmaaGreatDoorWRef07
import Derived.Test.YtkpomphooljgmaaGreatDoorWEntry
import Derived.Test.YtkpomphooljgmaaGreatDoorBase5
namespace Go.Wd
open Go Go.Proofs Go.Proofs.Tryz
abbrev RH (d m b n cap : Nat) (births : Int) (es : List Ety) (j : List Value) : List Assn :=
 [.row d [ptr m, .slice (some ⟨b, 0, none⟩) n cap, i64 births] 76, .row b (ecells es ++ j) 104]
def RDbA (d m : Nat) (D : Db) : Assn := .ex fun x : Nat × Nat × List Value => .all (.fact (D.ok ∧ D.ents.length ≤ x.2.1) :: (RH d m x.1 D.ents.length x.2.1 D.births D.ents x.2.2 ++ [RMemA m D.mem]))
theorem RDbA.open {d m : Nat} {D : Db} {f : FuncId} {args : Array Value} {pre : List Assn} {X : Type} {q : X → Prop} {ret : X → Value} {post : X → List Assn}
  (h : ∀ b n cap j, D.ents.length = n → D.ok → n ≤ cap → Spec prog f args (RH d m b n cap D.births D.ents j ++ [RMemA m D.mem] ++ pre) q ret post) : Spec prog f args (RDbA d m D :: pre) q ret post :=
 Spec.exL fun x => Spec.allL (Spec.factL fun hl => h x.1 _ x.2.1 x.2.2 rfl hl.1 hl.2)
theorem RDbA.fin' {L rest : List Assn} {d m b n cap : Nat} {D : Db} {j : List Value} (hD : D.ok) (hn : D.ents.length = n) (hc : n ≤ cap) (hp : Pick L (RH d m b n cap D.births D.ents j ++ [RMemA m D.mem]) rest) : Ent L (RDbA d m D :: rest) := by
 subst hn
 exact Ent.trans (Ent.perm hp) (Ent.trans (Ent.factR (φ := D.ok ∧ D.ents.length ≤ cap) ⟨hD, hc⟩) (Ent.trans (Ent.allR (M := .fact (D.ok ∧ D.ents.length ≤ cap) :: (RH d m b D.ents.length cap D.births D.ents j ++ [RMemA m D.mem])) (L := rest))
  (Ent.exR (A := fun x : Nat × Nat × List Value => .all (.fact (D.ok ∧ D.ents.length ≤ x.2.1) :: (RH d m x.1 D.ents.length x.2.1 D.births D.ents x.2.2 ++ [RMemA m D.mem]))) (b, cap, j))))
theorem RDbA.fin {L rest : List Assn} {d m b n cap : Nat} {D : Db} {j : List Value} (hD : D.ok) (hn : D.ents.length = n) (hc : n ≤ cap) (hp : Pick L (RH d m b n cap D.births D.ents j ++ [RMemA m D.mem]) rest) : Ent L [RDbA d m D] :=
 Ent.trans (RDbA.fin' hD hn hc hp) (Ent.pick (.cons .here .nil))
theorem RDbA.finE {α : Type} {L rest : List Assn} {d m b n cap : Nat} {D : Db} {j : List Value} {a : α} {r : α × Db} (e : r = (a, D)) (hD : D.ok) (hn : D.ents.length = n) (hc : n ≤ cap) (hp : Pick L (RH d m b n cap D.births D.ents j ++ [RMemA m D.mem]) rest) : Ent L [RDbA d m r.2] := by
 subst e; exact RDbA.fin hD hn hc hp

theorem fo_76_1_WRef12 : FieldOff prog 76 1 1 := FieldOff.of 74 1 underlying76 rfl sizeOf74 rfl
theorem fo_104_0_WRef12 : FieldOff prog 104 0 0 := FieldOff.of 3 1 underlying104 rfl sizeOf3 rfl
set_option maxHeartbeats 400000 in
theorem S_wardenref12_DB_is {d m b n cap : Nat} {births : Int} {es : List Ety} {j : List Value} (hn : es.length = n) (hl : n ≤ 64) {p t : Int} : Spec prog 61 [ptr d, i64 p, i64 t].toArray [.row d [ptr m, .slice (some ⟨b, 0, none⟩) n cap, i64 births] 76, .row b (ecells es ++ j) 104] (fun _ : Unit => True) (fun _ => .bool (decide (hasE es p ∧ (atE es p).ty = t))) (fun _ => [.row d [ptr m, .slice (some ⟨b, 0, none⟩) n cap, i64 births] 76, .row b (ecells es ++ j) 104]) := by
 refine Spec.body func61 rfl ntmps61 rfl (fun σ R => ?_)
 refine .seq (.region (.v (.assign rfl) (.nil (TQ.then (.seq (.region (.v (.move rfl) (.v (.geq rfl rfl) (.v (.move rfl) ?_)))))))))
 refine' TL.andG (k := 8) (dj := 9) (d := 17) rfl ?_ ?_ ?_
 rotate_left
 ·
  intro g17 hd
  first | replace g17 := of_decide_eq_true g17 | skip
  refine .want rfl rfl (.v (.move rfl) (.want rfl rfl (.v (.move rfl) (.want rfl rfl (.v (.nilCheck rfl) (.want rfl rfl (.v (.field fo_76_1_WRef12 rfl) (.want rfl rfl (.v (.load isAgg74 rfl .tk (by rfl)) ?_)))))))))
  refine .want rfl rfl (.v (.len underlying74 rfl) ?_)
  refine .want rfl rfl (.v (.lss rfl rfl) (.v (.pick_true rfl rfl) (.nil ?_)))
  exact .keep (Sub.cons rfl (Sub.push rfl (Sub.push rfl (Sub.push rfl (Sub.push rfl (Sub.push rfl (Sub.push rfl (Sub.push rfl (Sub.push rfl (Sub.pushSame hd Sub.rfl'))))))))))
 ·
  intro g17 hd
  refine .skip rfl rfl rfl (.skip rfl rfl rfl (.skip rfl rfl rfl (.skip rfl rfl rfl (.skip rfl rfl rfl (.skip rfl rfl rfl (.skip rfl rfl rfl (.v (.pick_false rfl rfl) (.nil ?_))))))))
  exact .keep (Sub.cons rfl (Sub.push rfl (Sub.push rfl (Sub.push rfl (Sub.push rfl (Sub.push rfl (Sub.push rfl (Sub.push rfl (Sub.push rfl (Sub.pushSame hd Sub.rfl'))))))))))
 first | refine .boolAnd ?_ | skip
 refine .v (.move rfl) ?_
 refine' TL.andG (k := 11) (dj := 18) (d := 29) rfl ?_ ?_ ?_
 rotate_left
 ·
  intro g29 hd
  first | replace g29 := of_decide_eq_true g29 | skip
  have hp : hasE es p := ⟨g29.1, by omega⟩
  refine .want rfl rfl (.v (.move rfl) (.want rfl rfl (.v (.nilCheck rfl) (.want rfl rfl (.v (.field fo_76_1_WRef12 rfl) (.want rfl rfl (.v (.load isAgg74 rfl .tk (by rfl)) ?_)))))))
  refine .want rfl rfl (.v (.move rfl) (.want rfl rfl ?_))
  refine .v (.ixSlice underlying74 sizeOf104 rfl rfl (by have h1 := (hp).1; have h2 := (hp).2; (try simp only [setE_len] at h2); omega)) ?_
  refine .want rfl rfl (.v (.field fo_104_0_WRef12 rfl) (.want rfl rfl (.v (.load isAgg3 rfl .tk (ecells_field (atE_get (hp)) rfl)) ?_)))
  refine .want rfl rfl (.v (.move rfl) (.want rfl rfl (.v (.eql rfl rfl) (.v (.pick_true rfl rfl) (.nil ?_)))))
  exact .keep (Sub.cons rfl (Sub.push rfl (Sub.push rfl (Sub.push rfl (Sub.push rfl (Sub.push rfl (Sub.push rfl (Sub.push rfl (Sub.push rfl (Sub.push rfl (Sub.push rfl (Sub.push rfl (Sub.pushSame hd Sub.rfl')))))))))))))
 ·
  intro g29 hd
  refine .skip rfl rfl rfl (.skip rfl rfl rfl (.skip rfl rfl rfl (.skip rfl rfl rfl (.skip rfl rfl rfl (.skip rfl rfl rfl (.skip rfl rfl rfl (.skip rfl rfl rfl (.skip rfl rfl rfl (.skip rfl rfl rfl (.v (.pick_false rfl rfl) (.nil ?_)))))))))))
  exact .keep (Sub.cons rfl (Sub.push rfl (Sub.push rfl (Sub.push rfl (Sub.push rfl (Sub.push rfl (Sub.push rfl (Sub.push rfl (Sub.push rfl (Sub.push rfl (Sub.push rfl (Sub.push rfl (Sub.pushSame hd Sub.rfl')))))))))))))
 first | refine .boolAnd ?_ | skip
 refine .v (.assign rfl) (.nil (TQ.then (.ret ?_)))
 exact .ret results61 (.tmp rfl .nil) () (congrArg Value.bool (decide_eq_decide.2 (by unfold hasE; omega))) trivial .en

theorem pl_104_WRef12 : Places prog 104 [(0, 1), (1, 1), (2, 1), (3, 1), (4, 1)] := ⟨_, underlying104, fun w => by simp [sizeOf3, sizeOf4]⟩
set_option maxHeartbeats 400000 in
theorem S_wardenref12_DB_Entry {d m b n cap : Nat} {births : Int} {es : List Ety} {j : List Value} (hn : es.length = n) (hl : n ≤ 64) {p : Int} : Spec prog 77 [ptr d, i64 p].toArray [.row d [ptr m, .slice (some ⟨b, 0, none⟩) n cap, i64 births] 76, .row b (ecells es ++ j) 104] (fun _ : Unit => True) (fun _ => .tuple #[(if hasE es p then (atE es p, (0 : Int)) else (.free, 5)).1.val, i64 (if hasE es p then (atE es p, (0 : Int)) else (.free, 5)).2]) (fun _ => [.row d [ptr m, .slice (some ⟨b, 0, none⟩) n cap, i64 births] 76, .row b (ecells es ++ j) 104]) := by
 refine Spec.body func77 rfl ntmps77 rfl (fun σ R => ?_)
 refine .seq (.region (.alloc zeroValue104 rfl rfl (fun b4 => ?_)))
 refine .v (.assign rfl) (.nil (TQ.then (.seq (.seq (.region (.v (.move rfl) (.v (.lss rfl rfl) (.v (.move rfl) ?_))))))))
 refine' TL.orG (k := 8) (dj := 8) (d := 16) rfl ?_ ?_ ?_
 rotate_left
 ·
  intro g16 hd
  first | replace g16 := of_decide_eq_false g16 | skip
  refine .want rfl rfl (.v (.move rfl) (.want rfl rfl (.v (.move rfl) (.want rfl rfl (.v (.nilCheck rfl) (.want rfl rfl (.v (.field fo_76_1_WRef12 rfl) (.want rfl rfl (.v (.load isAgg74 rfl .tk (by rfl)) ?_)))))))))
  refine .want rfl rfl (.v (.len underlying74 rfl) ?_)
  refine .want rfl rfl (.v (.geq rfl rfl) (.v (.pick_false rfl rfl) (.nil ?_)))
  exact .keep (Sub.cons rfl (Sub.push rfl (Sub.push rfl (Sub.push rfl (Sub.push rfl (Sub.push rfl (Sub.push rfl (Sub.push rfl (Sub.push rfl (Sub.pushSame hd Sub.rfl'))))))))))
 ·
  intro g16 hd
  refine .skip rfl rfl rfl (.skip rfl rfl rfl (.skip rfl rfl rfl (.skip rfl rfl rfl (.skip rfl rfl rfl (.skip rfl rfl rfl (.skip rfl rfl rfl (.v (.pick_true rfl rfl) (.nil ?_))))))))
  exact .keep (Sub.cons rfl (Sub.push rfl (Sub.push rfl (Sub.push rfl (Sub.push rfl (Sub.push rfl (Sub.push rfl (Sub.push rfl (Sub.push rfl (Sub.pushSame hd Sub.rfl'))))))))))
 first | refine .boolOr ?_ | skip
 refine .nil (TQ.then ?_)
 first | refine .cond_dec rfl (fun h1 => ?_) (fun h1 => ?_) | refine .cond rfl (fun h1 => ?_) (fun h1 => ?_)
 ·
  refine .seq (.region (.v (.build (cs := [_, _, _, _, _]) zeroValue104 pl_104_WRef12 rfl rfl) ?_))
  refine .storeAll (us := [_, _, _, _, _]) sizeOf104 rfl rfl rfl rfl .up rfl ?_
  refine .v (.assign rfl) (.nil (TQ.then (.ret (.then_ret ?_))))
  exact .ret results77 (.agg isAgg104 sizeOf104 rfl .tk (by rfl) (by rfl) (.tmp rfl .nil)) () (by rw [if_neg (by unfold hasE; omega)]; rfl) trivial .en
 ·
  have hp : hasE es p := ⟨by omega, by omega⟩
  refine .skip (TQ.then (.seq (.region (.v (.move rfl) (.v (.nilCheck rfl) (.v (.field fo_76_1_WRef12 rfl) (.v (.load isAgg74 rfl .tk (by rfl)) ?_)))))))
  refine .v (.move rfl) ?_
  refine .v (.ixSlice underlying74 sizeOf104 rfl rfl (by have h1 := (hp).1; have h2 := (hp).2; (try simp only [setE_len] at h2); omega)) ?_
  refine .v (.loadAgg (vs := [_, _, _, _, _]) isAgg104 sizeOf104 rfl .tk (ecells_get (atE_get (hp))) rfl) ?_
  refine .storeAll (us := [_, _, _, _, _]) sizeOf104 rfl rfl rfl rfl .up rfl ?_
  refine .v (.assign rfl) (.nil (TQ.then (.ret ?_)))
  exact .ret results77 (.agg isAgg104 sizeOf104 rfl .tk (by rfl) (by rfl) (.tmp rfl .nil)) () (by rw [if_pos hp]; rfl) trivial .en

theorem pl_78_WRef12 : Places prog 78 [(0, 1), (1, 1)] := ⟨_, underlying78, fun w => by simp [sizeOf3, sizeOf4]⟩
set_option maxHeartbeats 400000 in
theorem S_wardenref12_frame {p : Int} : Spec prog 54 [i64 p].toArray [] (fun _ : Unit => True) (fun _ => .agg #[.bool true, i64 p]) (fun _ => []) := by
 refine Spec.body func54 rfl ntmps54 rfl (fun σ R => ?_)
 refine .seq (.region (.alloc zeroValue78 rfl rfl (fun b2 => ?_)))
 refine .nil (TQ.then (.seq (.region (.v (.move rfl) (.v (.build (cs := [_, _]) zeroValue78 pl_78_WRef12 rfl rfl) ?_)))))
 refine .storeAll (us := [_, _]) sizeOf78 rfl rfl rfl rfl .up rfl ?_
 refine .nil (TQ.then (.ret ?_))
 exact .ret results54 (.agg isAgg78 sizeOf78 rfl .tk (by rfl) (by rfl) .nil) () (by first | rfl | simp [tup, *]) trivial .en

set_option maxHeartbeats 400000 in
theorem S_wardenref12_turns {t : Int} : Spec prog 62 [i64 t].toArray [] (fun _ : Unit => True) (fun _ => .bool (decide (turns t))) (fun _ => []) := by
 refine Spec.body func62 rfl ntmps62 rfl (fun σ R => ?_)
 refine .seq (.region (.v (.assign rfl) (.nil (TQ.then (.seq (.region (.v (.move rfl) (.v (.eql rfl rfl) (.v (.move rfl) ?_)))))))))
 refine' TL.orG (k := 3) (dj := 5) (d := 8) rfl ?_ ?_ ?_
 rotate_left
 ·
  intro g8 hd
  first | replace g8 := of_decide_eq_false g8 | skip
  refine .want rfl rfl (.v (.move rfl) (.want rfl rfl (.v (.eql rfl rfl) (.v (.pick_false rfl rfl) (.nil ?_)))))
  exact .keep (Sub.cons rfl (Sub.push rfl (Sub.push rfl (Sub.push rfl (Sub.pushSame hd Sub.rfl')))))
 ·
  intro g8 hd
  refine .skip rfl rfl rfl (.skip rfl rfl rfl (.v (.pick_true rfl rfl) (.nil ?_)))
  exact .keep (Sub.cons rfl (Sub.push rfl (Sub.push rfl (Sub.push rfl (Sub.pushSame hd Sub.rfl')))))
 first | refine .boolOr ?_ | skip
 refine .v (.move rfl) ?_
 refine' TL.orG (k := 3) (dj := 9) (d := 12) rfl ?_ ?_ ?_
 rotate_left
 ·
  intro g12 hd
  first | replace g12 := of_decide_eq_false g12 | skip
  refine .want rfl rfl (.v (.move rfl) (.want rfl rfl (.v (.eql rfl rfl) (.v (.pick_false rfl rfl) (.nil ?_)))))
  exact .keep (Sub.cons rfl (Sub.push rfl (Sub.push rfl (Sub.push rfl (Sub.pushSame hd Sub.rfl')))))
 ·
  intro g12 hd
  refine .skip rfl rfl rfl (.skip rfl rfl rfl (.v (.pick_true rfl rfl) (.nil ?_)))
  exact .keep (Sub.cons rfl (Sub.push rfl (Sub.push rfl (Sub.push rfl (Sub.pushSame hd Sub.rfl')))))
 first | refine .boolOr ?_ | skip
 refine .v (.assign rfl) (.nil (TQ.then (.ret ?_)))
 exact .ret results62 (.tmp rfl .nil) () (congrArg Value.bool (decide_eq_decide.2 (by unfold turns; omega))) trivial .en

theorem fo_76_0_WRef12 : FieldOff prog 76 0 0 := FieldOff.of 54 1 underlying76 rfl sizeOf54 rfl
theorem fo_76_2_WRef12 : FieldOff prog 76 2 2 := FieldOff.of 3 1 underlying76 rfl sizeOf3 rfl
set_option maxHeartbeats 400000 in
theorem S_wardenref12_DB_TakeSpace {d m : Nat} {D : Db} {sp fi : Int} : Spec prog 21 [ptr d, i64 sp, i64 fi].toArray [RDbA d m D] (fun _ : Unit => True) (fun _ => i64 (D.takeSpace sp fi).1) (fun _ => [RDbA d m (D.takeSpace sp fi).2]) := by
 refine RDbA.open (fun b n cap j hn hD hc => ?_)
 have hl : n ≤ 64 := hn ▸ hD.pages.2
 have hl1 : 1 ≤ n := hn ▸ hD.pages.1
 have ho := hD.ent
 refine Spec.body func21 rfl ntmps21 rfl (fun σ R => ?_)
 refine .seq (.region (.v (.assign rfl) (.nil (TQ.then (.seq (.seq (.region (.v (.move rfl) (.v (.lss rfl rfl) (.v (.move rfl) ?_))))))))))
 refine' TL.orG (k := 8) (dj := 9) (d := 17) rfl ?_ ?_ ?_
 rotate_left
 ·
  intro g17 hd
  first | replace g17 := of_decide_eq_false g17 | skip
  refine .want rfl rfl (.v (.move rfl) (.want rfl rfl (.v (.move rfl) (.want rfl rfl (.v (.nilCheck rfl) (.want rfl rfl (.v (.field fo_76_1_WRef12 rfl) (.want rfl rfl (.v (.load isAgg74 rfl .tk (by rfl)) ?_)))))))))
  refine .want rfl rfl (.v (.len underlying74 rfl) ?_)
  refine .want rfl rfl (.v (.geq rfl rfl) (.v (.pick_false rfl rfl) (.nil ?_)))
  exact .keep (Sub.cons rfl (Sub.push rfl (Sub.push rfl (Sub.push rfl (Sub.push rfl (Sub.push rfl (Sub.push rfl (Sub.push rfl (Sub.push rfl (Sub.pushSame hd Sub.rfl'))))))))))
 ·
  intro g17 hd
  refine .skip rfl rfl rfl (.skip rfl rfl rfl (.skip rfl rfl rfl (.skip rfl rfl rfl (.skip rfl rfl rfl (.skip rfl rfl rfl (.skip rfl rfl rfl (.v (.pick_true rfl rfl) (.nil ?_))))))))
  exact .keep (Sub.cons rfl (Sub.push rfl (Sub.push rfl (Sub.push rfl (Sub.push rfl (Sub.push rfl (Sub.push rfl (Sub.push rfl (Sub.push rfl (Sub.pushSame hd Sub.rfl'))))))))))
 first | refine .boolOr ?_ | skip
 refine .v (.move rfl) ?_
 refine' TL.orG (k := 3) (dj := 18) (d := 21) rfl ?_ ?_ ?_
 rotate_left
 ·
  intro g21 hd
  first | replace g21 := of_decide_eq_false g21 | skip
  refine .want rfl rfl (.v (.move rfl) (.want rfl rfl (.v (.lss rfl rfl) (.v (.pick_false rfl rfl) (.nil ?_)))))
  exact .keep (Sub.cons rfl (Sub.push rfl (Sub.push rfl (Sub.push rfl (Sub.pushSame hd Sub.rfl')))))
 ·
  intro g21 hd
  refine .skip rfl rfl rfl (.skip rfl rfl rfl (.v (.pick_true rfl rfl) (.nil ?_)))
  exact .keep (Sub.cons rfl (Sub.push rfl (Sub.push rfl (Sub.push rfl (Sub.pushSame hd Sub.rfl')))))
 first | refine .boolOr ?_ | skip
 refine .v (.move rfl) ?_
 refine' TL.orG (k := 8) (dj := 22) (d := 30) rfl ?_ ?_ ?_
 rotate_left
 ·
  intro g30 hd
  first | replace g30 := of_decide_eq_false g30 | skip
  refine .want rfl rfl (.v (.move rfl) (.want rfl rfl (.v (.move rfl) (.want rfl rfl (.v (.nilCheck rfl) (.want rfl rfl (.v (.field fo_76_1_WRef12 rfl) (.want rfl rfl (.v (.load isAgg74 rfl .tk (by rfl)) ?_)))))))))
  refine .want rfl rfl (.v (.len underlying74 rfl) ?_)
  refine .want rfl rfl (.v (.geq rfl rfl) (.v (.pick_false rfl rfl) (.nil ?_)))
  exact .keep (Sub.cons rfl (Sub.push rfl (Sub.push rfl (Sub.push rfl (Sub.push rfl (Sub.push rfl (Sub.push rfl (Sub.push rfl (Sub.push rfl (Sub.pushSame hd Sub.rfl'))))))))))
 ·
  intro g30 hd
  refine .skip rfl rfl rfl (.skip rfl rfl rfl (.skip rfl rfl rfl (.skip rfl rfl rfl (.skip rfl rfl rfl (.skip rfl rfl rfl (.skip rfl rfl rfl (.v (.pick_true rfl rfl) (.nil ?_))))))))
  exact .keep (Sub.cons rfl (Sub.push rfl (Sub.push rfl (Sub.push rfl (Sub.push rfl (Sub.push rfl (Sub.push rfl (Sub.push rfl (Sub.push rfl (Sub.pushSame hd Sub.rfl'))))))))))
 first | refine .boolOr ?_ | skip
 refine .nil (TQ.then ?_)
 first | refine .cond_dec rfl (fun h1 => ?_) (fun h1 => ?_) | refine .cond rfl (fun h1 => ?_) (fun h1 => ?_)
 ·
  refine .seq (.region (.v (.assign rfl) (.nil (TQ.then (.ret (.then_ret ?_))))))
  have e2 : D.takeSpace sp fi = (5, D) := by unfold Db.takeSpace; exact if_pos (by simp only [Db.has, hasE]; omega)
  exact .ret results21 (.tmp rfl .nil) () (by rw [e2]; rfl) trivial (RDbA.finE e2 hD hn hc .pk)
 ·
  have hsp : hasE D.ents sp := ⟨by omega, by omega⟩
  have hfi : hasE D.ents fi := ⟨by omega, by omega⟩
  have hb := hD.births
  refine .skip (TQ.then (.seq (.seq (.region (.v (.move rfl) (.v (.move rfl) (.v (.eql rfl rfl) (.nil (TQ.then ?_)))))))))
  first | refine .cond_dec rfl (fun h2 => ?_) (fun h2 => ?_) | refine .cond rfl (fun h2 => ?_) (fun h2 => ?_)
  ·
   refine .seq (.region (.v (.assign rfl) (.nil (TQ.then (.ret (.then_ret ?_))))))
   have e2 : D.takeSpace sp fi = (1, D) := by unfold Db.takeSpace; rw [if_neg (fun c => c ⟨hsp, hfi⟩), if_pos h2]
   exact .ret results21 (.tmp rfl .nil) () (by rw [e2]; rfl) trivial (RDbA.finE e2 hD hn hc .pk)
  ·
   refine .skip (TQ.then (.seq (.seq (.region (.v (.move rfl) (.v (.nilCheck rfl) (.v (.field fo_76_1_WRef12 rfl) (.v (.load isAgg74 rfl .tk (by rfl)) ?_))))))))
   refine .v (.move rfl) ?_
   refine .v (.ixSlice underlying74 sizeOf104 rfl rfl (by have h1 := (hsp).1; have h2 := (hsp).2; (try simp only [setE_len] at h2); omega)) ?_
   refine .v (.field fo_104_0_WRef12 rfl) (.v (.load isAgg3 rfl .tk (ecells_field (atE_get (hsp)) rfl)) ?_)
   refine .v (.neq rfl rfl) (.v (.move rfl) ?_)
   refine' TL.orG (k := 10) (dj := 43) (d := 53) rfl ?_ ?_ ?_
   rotate_left
   ·
    intro g53 hd
    first | replace g53 := of_decide_eq_false g53 | skip
    refine .want rfl rfl (.v (.move rfl) (.want rfl rfl (.v (.nilCheck rfl) (.want rfl rfl (.v (.field fo_76_1_WRef12 rfl) (.want rfl rfl (.v (.load isAgg74 rfl .tk (by rfl)) ?_)))))))
    refine .want rfl rfl (.v (.move rfl) (.want rfl rfl ?_))
    refine .v (.ixSlice underlying74 sizeOf104 rfl rfl (by have h1 := (hfi).1; have h2 := (hfi).2; (try simp only [setE_len] at h2); omega)) ?_
    refine .want rfl rfl (.v (.field fo_104_0_WRef12 rfl) (.want rfl rfl (.v (.load isAgg3 rfl .tk (ecells_field (atE_get (hfi)) rfl)) ?_)))
    refine .want rfl rfl (.v (.neq rfl rfl) (.v (.pick_false rfl rfl) (.nil ?_)))
    exact .keep (Sub.cons rfl (Sub.push rfl (Sub.push rfl (Sub.push rfl (Sub.push rfl (Sub.push rfl (Sub.push rfl (Sub.push rfl (Sub.push rfl (Sub.push rfl (Sub.push rfl (Sub.pushSame hd Sub.rfl'))))))))))))
   ·
    intro g53 hd
    refine .skip rfl rfl rfl (.skip rfl rfl rfl (.skip rfl rfl rfl (.skip rfl rfl rfl (.skip rfl rfl rfl (.skip rfl rfl rfl (.skip rfl rfl rfl (.skip rfl rfl rfl (.skip rfl rfl rfl (.v (.pick_true rfl rfl) (.nil ?_))))))))))
    exact .keep (Sub.cons rfl (Sub.push rfl (Sub.push rfl (Sub.push rfl (Sub.push rfl (Sub.push rfl (Sub.push rfl (Sub.push rfl (Sub.push rfl (Sub.push rfl (Sub.push rfl (Sub.pushSame hd Sub.rfl'))))))))))))
   first | refine .boolOr ?_ | skip
   refine .nil (TQ.then ?_)
   first | refine .cond_dec rfl (fun h3 => ?_) (fun h3 => ?_) | refine .cond rfl (fun h3 => ?_) (fun h3 => ?_)
   ·
    refine .seq (.region (.v (.assign rfl) (.nil (TQ.then (.ret (.then_ret ?_))))))
    have e2 : D.takeSpace sp fi = (120, D) := by unfold Db.takeSpace; rw [if_neg (fun c => c ⟨hsp, hfi⟩), if_neg h2]; exact if_pos (Classical.not_and_iff_not_or_not.2 h3)
    exact .ret results21 (.tmp rfl .nil) () (by rw [e2]; rfl) trivial (RDbA.finE e2 hD hn hc .pk)
   ·
    have hz : (atE D.ents sp).ty = 0 ∧ (atE D.ents fi).ty = 0 := Classical.byContradiction fun c => h3 (Classical.not_and_iff_not_or_not.1 c)
    refine .skip (TQ.then (.seq (.seq (.region (.v (.move rfl) (.v (.nilCheck rfl) (.v (.field fo_76_2_WRef12 rfl) (.v (.load isAgg3 rfl .tk (by rfl)) ?_))))))))
    refine .v (.geq rfl rfl) (.nil (TQ.then ?_))
    first | refine .cond_dec rfl (fun h4 => ?_) (fun h4 => ?_) | refine .cond rfl (fun h4 => ?_) (fun h4 => ?_)
    ·
     refine .seq (.region (.v (.assign rfl) (.nil (TQ.then (.ret (.then_ret ?_))))))
     have e2 : D.takeSpace sp fi = (240, D) := by unfold Db.takeSpace; rw [if_neg (fun c => c ⟨hsp, hfi⟩), if_neg h2, if_neg (fun c => c hz), if_pos h4]
     exact .ret results21 (.tmp rfl .nil) () (by rw [e2]; rfl) trivial (RDbA.finE e2 hD hn hc .pk)
    ·
     refine .skip (TQ.then (.seq (.region (.v (.move rfl) (.v (.nilCheck rfl) (.v (.field fo_76_1_WRef12 rfl) (.v (.load isAgg74 rfl .tk (by rfl)) ?_)))))))
     refine .v (.move rfl) (.v (.move rfl) (.v (.build (cs := [_, _, _, _, _]) zeroValue104 pl_104_WRef12 rfl rfl) ?_))
     refine .v (.ixSlice underlying74 sizeOf104 rfl rfl (by have h1 := (hfi).1; have h2 := (hfi).2; (try simp only [setE_len] at h2); omega)) ?_
     refine .storeAggTo (us := [_, _, _, _, _]) (new := ecells (setE D.ents fi ⟨3, sp, 0, 0, false⟩) ++ j) sizeOf104 rfl rfl rfl rfl .up (ecells_put (e' := ⟨3, sp, 0, 0, false⟩) (by have h1 := (hfi).1; have h2 := (hfi).2; omega)) (by rw [List.length_append, ecells_len]; have h1 := (hfi).1; have h2 := (hfi).2; (try simp only [setE_len] at h2); (try simp only [setE_len]); omega) ?_
     refine .nil (TQ.then (.seq ?_))
     have hsp2 : hasE (setE D.ents fi ⟨3, sp, 0, 0, false⟩) sp := hasE_set.2 hsp
     refine .region (.v (.move rfl) (.v (.nilCheck rfl) (.v (.field fo_76_1_WRef12 rfl) (.v (.load isAgg74 rfl .tk (by rfl)) ?_))))
     refine .v (.move rfl) (.v (.move rfl) (.v (.build (cs := [_, _, _, _, _]) zeroValue104 pl_104_WRef12 rfl rfl) ?_))
     refine .v (.ixSlice underlying74 sizeOf104 rfl rfl (by have h1 := (hsp2).1; have h2 := (hsp2).2; (try simp only [setE_len] at h2); omega)) ?_
     refine .storeAggTo (us := [_, _, _, _, _]) (new := ecells (setE (setE D.ents fi ⟨3, sp, 0, 0, false⟩) sp ⟨1, sp, 1, 1, false⟩) ++ j) sizeOf104 rfl rfl rfl rfl .up (ecells_put (e' := ⟨1, sp, 1, 1, false⟩) (by have h1 := (hsp2).1; have h2 := (hsp2).2; omega)) (by rw [List.length_append, ecells_len]; have h1 := (hsp2).1; have h2 := (hsp2).2; (try simp only [setE_len] at h2); (try simp only [setE_len]); omega) ?_
     refine .nil (TQ.then (.seq (.draw (H := [.row d _ _]) (.q 0 (.q 1 (.q 2 (.q 3 (.q 4 (.q 6 (.q 7 (.e 5 (.e 8 .done))))))))) (by kernel_rfl) .pk (by kernel_rfl) (by kernel_rfl) (by kernel_rfl) ?_)))
     refine .v rfl (.move rfl) (.v rfl (.nilCheck rfl) (.v rfl (.field fo_76_0_WRef12 rfl) (.v rfl (.load isAgg54 rfl .tk (by rfl)) ?_)))
     refine .v rfl (.move rfl) (.v rfl (.move rfl) (.v rfl (.conv_64_32 underlying3 underlying23 rfl) ?_))
     refine .eff rfl (fun fu_ li_ hk_ hs_ hl_ => ?_)
     refine .call call54 (S_wardenref12_frame) rfl .pk rfl (fun x80 hx80 => ?_)
     refine .nil (TS.back hk_ hs_ hl_ .pk ?_)
     refine .eff rfl (fun fu_ li_ hk_ hs_ hl_ => ?_)
     refine .call call36 (S_wardenref07_Memory_Write) rfl .pk rfl (fun x83 hx83 => ?_)
     refine .nil (TS.back hk_ hs_ hl_ .pk ?_)
     refine .done (TQ.then (.seq (.draw (H := [.row d _ _]) (.q 0 (.q 1 (.q 2 (.q 3 (.q 4 (.q 6 (.q 7 (.q 8 (.q 9 (.q 10 (.e 5 (.e 11 .done)))))))))))) (by kernel_rfl) .pk (by kernel_rfl) (by kernel_rfl) (by kernel_rfl) ?_)))
     refine .v rfl (.move rfl) (.v rfl (.nilCheck rfl) (.v rfl (.field fo_76_0_WRef12 rfl) (.v rfl (.load isAgg54 rfl .tk (by rfl)) ?_)))
     refine .v rfl (.move rfl) (.v rfl (.move rfl) (.v rfl (.nilCheck rfl) (.v rfl (.field fo_76_2_WRef12 rfl) (.v rfl (.load isAgg3 rfl .tk (by rfl)) ?_))))
     refine .v rfl (.conv_64_32 underlying3 underlying23 rfl) ?_
     refine .eff rfl (fun fu_ li_ hk_ hs_ hl_ => ?_)
     refine .call call54 (S_wardenref12_frame) rfl .pk rfl (fun x89 hx89 => ?_)
     refine .nil (TS.back hk_ hs_ hl_ .pk ?_)
     refine .eff rfl (fun fu_ li_ hk_ hs_ hl_ => ?_)
     refine .call call36 (S_wardenref07_Memory_Write) rfl .pk rfl (fun x95 hx95 => ?_)
     refine .nil (TS.back hk_ hs_ hl_ .pk ?_)
     refine .done (TQ.then (.seq (.draw (H := [.row d _ _]) (.q 0 (.q 1 (.q 2 (.q 3 (.q 4 (.e 5 (.e 6 .done))))))) (by kernel_rfl) .pk (by kernel_rfl) (by kernel_rfl) (by kernel_rfl) ?_)))
     refine .v rfl (.move rfl) (.v rfl (.nilCheck rfl) (.v rfl (.field fo_76_0_WRef12 rfl) (.v rfl (.load isAgg54 rfl .tk (by rfl)) ?_)))
     refine .v rfl (.move rfl) (.eff rfl (fun fu_ li_ hk_ hs_ hl_ => ?_))
     refine .call call54 (S_wardenref12_frame) rfl .pk rfl (fun x101 hx101 => ?_)
     refine .nil (TS.back hk_ hs_ hl_ .pk ?_)
     refine .eff rfl (fun fu_ li_ hk_ hs_ hl_ => ?_)
     refine .call call36 (S_wardenref07_Memory_Write (v := 0#32)) rfl .pk rfl (fun x102 hx102 => ?_)
     refine .nil (TS.back hk_ hs_ hl_ .pk ?_)
     refine .done (TQ.then (.seq (.region (.v (.move rfl) (.v (.nilCheck rfl) (.v (.field fo_76_2_WRef12 rfl) (.v (.load isAgg3 rfl .tk (by rfl)) ?_)))))))
     refine .v (.add64 rfl rfl (by omega)) ?_
     refine .v (.nilCheck rfl) (.v (.field fo_76_2_WRef12 rfl) (.store sizeOf3 rfl rfl rfl .up (by rfl) ?_))
     refine .nil (TQ.then (.seq (.region (.v (.assign rfl) (.nil (TQ.then (.ret ?_)))))))
     have e2 : D.takeSpace sp fi = (0, ⟨(((D.mem.write true sp 0 (BitVec.ofInt 32 fi)).2.write true sp 1 (BitVec.ofInt 32 D.births)).2.write true sp 2 0).2, D.births + 1, setE (setE D.ents sp ⟨1, sp, 1, 1, false⟩) fi ⟨3, sp, 0, 0, false⟩⟩) := by unfold Db.takeSpace; rw [if_neg (fun c => c ⟨hsp, hfi⟩), if_neg h2, if_neg (fun c => c hz), if_neg h4]
     have k1 := hsp.1; have k2 := hsp.2; have k3 := hfi.1; have k4 := hfi.2
     rw [Db.takeSpace_swap h2 k1 k3]
     exact .ret results21 (.tmp rfl .nil) () (by rw [e2]; rfl) trivial (RDbA.finE (n := n) e2 ⟨by simp [setE_len, Mem.write_len, hD.len], okE.set (okE.set ho (by unfold Ety.ok; simp; omega) hsp.2) (by unfold Ety.ok; simp; omega) (by rw [setE_len]; exact hsp.2), by simp; omega, by simp [setE_len]; exact hD.pages⟩ (by simp [setE_len]; exact hn) hc .pk)

theorem fo_104_2_WRef12 : FieldOff prog 104 2 2 := FieldOff.of 3 1 underlying104 rfl sizeOf3 rfl
set_option maxHeartbeats 400000 in
theorem S_wardenref12_DB_Take {d m : Nat} {D : Db} {p t sp : Int} : Spec prog 23 [ptr d, i64 p, i64 t, i64 sp].toArray [RDbA d m D] (fun _ : Unit => True) (fun _ => i64 (D.take p t sp).1) (fun _ => [RDbA d m (D.take p t sp).2]) := by
 refine RDbA.open (fun b n cap j hn hD hc => ?_)
 have hl : n ≤ 64 := hn ▸ hD.pages.2
 have hl1 : 1 ≤ n := hn ▸ hD.pages.1
 have ho := hD.ent
 refine Spec.body func23 rfl ntmps23 rfl (fun σ R => ?_)
 refine .seq (.region (.v (.assign rfl) (.nil (TQ.then (.seq (.seq (.region (.v (.move rfl) (.v (.lss rfl rfl) (.v (.move rfl) ?_))))))))))
 refine' TL.orG (k := 8) (dj := 12) (d := 20) rfl ?_ ?_ ?_
 rotate_left
 ·
  intro g20 hd
  first | replace g20 := of_decide_eq_false g20 | skip
  refine .want rfl rfl (.v (.move rfl) (.want rfl rfl (.v (.move rfl) (.want rfl rfl (.v (.nilCheck rfl) (.want rfl rfl (.v (.field fo_76_1_WRef12 rfl) (.want rfl rfl (.v (.load isAgg74 rfl .tk (by rfl)) ?_)))))))))
  refine .want rfl rfl (.v (.len underlying74 rfl) ?_)
  refine .want rfl rfl (.v (.geq rfl rfl) (.v (.pick_false rfl rfl) (.nil ?_)))
  exact .keep (Sub.cons rfl (Sub.push rfl (Sub.push rfl (Sub.push rfl (Sub.push rfl (Sub.push rfl (Sub.push rfl (Sub.push rfl (Sub.push rfl (Sub.pushSame hd Sub.rfl'))))))))))
 ·
  intro g20 hd
  refine .skip rfl rfl rfl (.skip rfl rfl rfl (.skip rfl rfl rfl (.skip rfl rfl rfl (.skip rfl rfl rfl (.skip rfl rfl rfl (.skip rfl rfl rfl (.v (.pick_true rfl rfl) (.nil ?_))))))))
  exact .keep (Sub.cons rfl (Sub.push rfl (Sub.push rfl (Sub.push rfl (Sub.push rfl (Sub.push rfl (Sub.push rfl (Sub.push rfl (Sub.push rfl (Sub.pushSame hd Sub.rfl'))))))))))
 first | refine .boolOr ?_ | skip
 refine .nil (TQ.then ?_)
 first | refine .cond_dec rfl (fun h1 => ?_) (fun h1 => ?_) | refine .cond rfl (fun h1 => ?_) (fun h1 => ?_)
 ·
  refine .seq (.region (.v (.assign rfl) (.nil (TQ.then (.ret (.then_ret ?_))))))
  have e2 : D.take p t sp = (5, D) := by unfold Db.take; exact if_pos (by simp only [Db.has, hasE]; omega)
  exact .ret results23 (.tmp rfl .nil) () (by rw [e2]; rfl) trivial (RDbA.finE e2 hD hn hc .pk)
 ·
  have hp : hasE D.ents p := ⟨by omega, by omega⟩
  refine .skip (TQ.then (.seq (.seq (.region (.v (.move rfl) (.v (.neq rfl rfl) (.v (.move rfl) ?_)))))))
  refine' TL.andG (k := 3) (dj := 23) (d := 26) rfl ?_ ?_ ?_
  rotate_left
  ·
   intro g26 hd
   first | replace g26 := of_decide_eq_true g26 | skip
   refine .want rfl rfl (.v (.move rfl) (.want rfl rfl (.v (.neq rfl rfl) (.v (.pick_true rfl rfl) (.nil ?_)))))
   exact .keep (Sub.cons rfl (Sub.push rfl (Sub.push rfl (Sub.push rfl (Sub.pushSame hd Sub.rfl')))))
  ·
   intro g26 hd
   refine .skip rfl rfl rfl (.skip rfl rfl rfl (.v (.pick_false rfl rfl) (.nil ?_)))
   exact .keep (Sub.cons rfl (Sub.push rfl (Sub.push rfl (Sub.push rfl (Sub.pushSame hd Sub.rfl')))))
  first | refine .boolAnd ?_ | skip
  refine .v (.move rfl) ?_
  refine' TL.andG (k := 3) (dj := 27) (d := 30) rfl ?_ ?_ ?_
  rotate_left
  ·
   intro g30 hd
   first | replace g30 := of_decide_eq_true g30 | skip
   refine .want rfl rfl (.v (.move rfl) (.want rfl rfl (.v (.neq rfl rfl) (.v (.pick_true rfl rfl) (.nil ?_)))))
   exact .keep (Sub.cons rfl (Sub.push rfl (Sub.push rfl (Sub.push rfl (Sub.pushSame hd Sub.rfl')))))
  ·
   intro g30 hd
   refine .skip rfl rfl rfl (.skip rfl rfl rfl (.v (.pick_false rfl rfl) (.nil ?_)))
   exact .keep (Sub.cons rfl (Sub.push rfl (Sub.push rfl (Sub.push rfl (Sub.pushSame hd Sub.rfl')))))
  first | refine .boolAnd ?_ | skip
  refine .v (.move rfl) ?_
  refine' TL.andG (k := 3) (dj := 31) (d := 34) rfl ?_ ?_ ?_
  rotate_left
  ·
   intro g34 hd
   first | replace g34 := of_decide_eq_true g34 | skip
   refine .want rfl rfl (.v (.move rfl) (.want rfl rfl (.v (.neq rfl rfl) (.v (.pick_true rfl rfl) (.nil ?_)))))
   exact .keep (Sub.cons rfl (Sub.push rfl (Sub.push rfl (Sub.push rfl (Sub.pushSame hd Sub.rfl')))))
  ·
   intro g34 hd
   refine .skip rfl rfl rfl (.skip rfl rfl rfl (.v (.pick_false rfl rfl) (.nil ?_)))
   exact .keep (Sub.cons rfl (Sub.push rfl (Sub.push rfl (Sub.push rfl (Sub.pushSame hd Sub.rfl')))))
  first | refine .boolAnd ?_ | skip
  refine .nil (TQ.then ?_)
  first | refine .cond_dec rfl (fun h2 => ?_) (fun h2 => ?_) | refine .cond rfl (fun h2 => ?_) (fun h2 => ?_)
  ·
   refine .seq (.region (.v (.assign rfl) (.nil (TQ.then (.ret (.then_ret ?_))))))
   have e2 : D.take p t sp = (124, D) := by unfold Db.take; rw [if_neg (fun c => c hp)]; exact if_pos (by unfold turns; omega)
   exact .ret results23 (.tmp rfl .nil) () (by rw [e2]; rfl) trivial (RDbA.finE e2 hD hn hc .pk)
  ·
   have ht : t = 2 ∨ turns t := by unfold turns; omega
   have ht' : ¬ (t ≠ 2 ∧ ¬ turns t) := by unfold turns; omega
   refine .skip (TQ.then (.seq (.region (.v (.move rfl) (.v (.move rfl) (.call call61 (S_wardenref12_DB_is hn hl) rfl .pk rfl (fun x37 hx37 => ?_)))))))
   refine .v (.assign rfl) (.nil (TQ.then (.seq (.seq (.region (.v (.move rfl) (.v (by first | exact Val.not_dec rfl | exact Val.not rfl) ?_)))))))
   refine .v (.move rfl) ?_
   refine' TL.orG (k := 10) (dj := 40) (d := 50) rfl ?_ ?_ ?_
   rotate_left
   ·
    intro g50 hd
    first | replace g50 := of_decide_eq_false g50 | skip
    replace g50 := Classical.byContradiction g50
    refine .want rfl rfl (.v (.move rfl) (.want rfl rfl (.v (.nilCheck rfl) (.want rfl rfl (.v (.field fo_76_1_WRef12 rfl) (.want rfl rfl (.v (.load isAgg74 rfl .tk (by rfl)) ?_)))))))
    refine .want rfl rfl (.v (.move rfl) (.want rfl rfl ?_))
    refine .v (.ixSlice underlying74 sizeOf104 rfl rfl (by have h1 := (g50.1).1; have h2 := (g50.1).2; (try simp only [setE_len] at h2); omega)) ?_
    refine .want rfl rfl (.v (.field fo_104_2_WRef12 rfl) (.want rfl rfl (.v (.load isAgg3 rfl .tk (ecells_field (atE_get (g50.1)) rfl)) ?_)))
    refine .want rfl rfl (.v (.geq rfl rfl) (.v (.pick_false rfl rfl) (.nil ?_)))
    exact .keep (Sub.cons rfl (Sub.push rfl (Sub.push rfl (Sub.push rfl (Sub.push rfl (Sub.push rfl (Sub.push rfl (Sub.push rfl (Sub.push rfl (Sub.push rfl (Sub.push rfl (Sub.pushSame hd Sub.rfl'))))))))))))
   ·
    intro g50 hd
    refine .skip rfl rfl rfl (.skip rfl rfl rfl (.skip rfl rfl rfl (.skip rfl rfl rfl (.skip rfl rfl rfl (.skip rfl rfl rfl (.skip rfl rfl rfl (.skip rfl rfl rfl (.skip rfl rfl rfl (.v (.pick_true rfl rfl) (.nil ?_))))))))))
    exact .keep (Sub.cons rfl (Sub.push rfl (Sub.push rfl (Sub.push rfl (Sub.push rfl (Sub.push rfl (Sub.push rfl (Sub.push rfl (Sub.push rfl (Sub.push rfl (Sub.push rfl (Sub.pushSame hd Sub.rfl'))))))))))))
   first | refine .boolOr ?_ | skip
   refine .nil (TQ.then ?_)
   first | refine .cond_dec rfl (fun h3 => ?_) (fun h3 => ?_) | refine .cond rfl (fun h3 => ?_) (fun h3 => ?_)
   ·
    refine .seq (.region (.v (.assign rfl) (.nil (TQ.then (.ret (.then_ret ?_))))))
    have e2 : D.take p t sp = (122, D) := by unfold Db.take; rw [if_neg (fun c => c hp), if_neg ht']; exact if_pos h3
    exact .ret results23 (.tmp rfl .nil) () (by rw [e2]; rfl) trivial (RDbA.finE e2 hD hn hc .pk)
   ·
    have hs : hasE D.ents sp ∧ (atE D.ents sp).ty = 1 := Classical.byContradiction fun c => h3 (.inl c)
    have hr : ¬ 63 ≤ (atE D.ents sp).refs := fun c => h3 (.inr c)
    refine .skip (TQ.then (.seq (.seq (.region (.v (.move rfl) (.v (.nilCheck rfl) (.v (.field fo_76_1_WRef12 rfl) (.v (.load isAgg74 rfl .tk (by rfl)) ?_))))))))
    refine .v (.move rfl) ?_
    refine .v (.ixSlice underlying74 sizeOf104 rfl rfl (by have h1 := (hp).1; have h2 := (hp).2; (try simp only [setE_len] at h2); omega)) ?_
    refine .v (.field fo_104_0_WRef12 rfl) (.v (.load isAgg3 rfl .tk (ecells_field (atE_get (hp)) rfl)) ?_)
    refine .v (.neq rfl rfl) (.nil (TQ.then ?_))
    first | refine .cond_dec rfl (fun h4 => ?_) (fun h4 => ?_) | refine .cond rfl (fun h4 => ?_) (fun h4 => ?_)
    ·
     refine .seq (.region (.v (.assign rfl) (.nil (TQ.then (.ret (.then_ret ?_))))))
     have e2 : D.take p t sp = (120, D) := by unfold Db.take; rw [if_neg (fun c => c hp), if_neg ht', if_neg (show ¬ (¬ D.space sp ∨ 63 ≤ (D.at sp).refs) from h3), if_pos h4]
     exact .ret results23 (.tmp rfl .nil) () (by rw [e2]; rfl) trivial (RDbA.finE e2 hD hn hc .pk)
    ·
     have hne : p ≠ sp := fun c => by subst c; have := hs.2; omega
     have hat : atE (setE D.ents p ⟨t, sp, 0, 0, false⟩) sp = atE D.ents sp := by rw [atE_set hp hs.1, if_neg hne]
     have h0 := ho.ok hs.1
     have ht2 : 0 ≤ t ∧ t ≤ 6 ∧ t ≠ 1 ∧ t ≠ 0 := by unfold turns at ht; omega
     have hs1' := hs.1.1
     have hs2' := hs.1.2
     have hm : (⟨t, sp, 0, 0, false⟩ : Ety).ok := by unfold Ety.ok; simp; omega
     have hs2 : hasE (setE D.ents p ⟨t, sp, 0, 0, false⟩) sp := hasE_set.2 hs.1
     have hrr : 0 ≤ (atE (setE D.ents p ⟨t, sp, 0, 0, false⟩) sp).refs ∧ (atE (setE D.ents p ⟨t, sp, 0, 0, false⟩) sp).refs ≤ 63 := by rw [hat]; unfold Ety.ok at h0; omega
     refine .skip (TQ.then (.seq (.region (.v (.move rfl) (.v (.nilCheck rfl) (.v (.field fo_76_1_WRef12 rfl) (.v (.load isAgg74 rfl .tk (by rfl)) ?_)))))))
     refine .v (.move rfl) (.v (.move rfl) (.v (.move rfl) (.v (.build (cs := [_, _, _, _, _]) zeroValue104 pl_104_WRef12 rfl rfl) ?_)))
     refine .v (.ixSlice underlying74 sizeOf104 rfl rfl (by have h1 := (hp).1; have h2 := (hp).2; (try simp only [setE_len] at h2); omega)) ?_
     refine .storeAggTo (us := [_, _, _, _, _]) (new := ecells (setE D.ents p ⟨t, sp, 0, 0, false⟩) ++ j) sizeOf104 rfl rfl rfl rfl .up (ecells_put (e' := ⟨t, sp, 0, 0, false⟩) (by have h1 := (hp).1; have h2 := (hp).2; omega)) (by rw [List.length_append, ecells_len]; have h1 := (hp).1; have h2 := (hp).2; (try simp only [setE_len] at h2); (try simp only [setE_len]); omega) ?_
     refine .nil (TQ.then (.seq (.region (.v (.move rfl) (.v (.nilCheck rfl) (.v (.field fo_76_1_WRef12 rfl) (.v (.load isAgg74 rfl .tk (by rfl)) ?_)))))))
     refine .v (.move rfl) ?_
     refine .v (.ixSlice underlying74 sizeOf104 rfl rfl (by have h1 := (hs2).1; have h2 := (hs2).2; (try simp only [setE_len] at h2); omega)) ?_
     refine .v (.field fo_104_2_WRef12 rfl) (.v (.load isAgg3 rfl .tk (ecells_field (atE_get (hs2)) rfl)) ?_)
     refine .v (.add64 rfl rfl (by omega)) ?_
     refine .v (.ixSlice underlying74 sizeOf104 rfl rfl (by have h1 := (hs2).1; have h2 := (hs2).2; (try simp only [setE_len] at h2); omega)) ?_
     refine .v (.field fo_104_2_WRef12 rfl) ?_
     refine .storeTo (new := ecells (setE (setE D.ents p ⟨t, sp, 0, 0, false⟩) sp { atE (setE D.ents p ⟨t, sp, 0, 0, false⟩) sp with refs := (atE (setE D.ents p ⟨t, sp, 0, 0, false⟩) sp).refs + 1 }) ++ j) sizeOf3 rfl rfl rfl .up (ecells_set (e := (atE (setE D.ents p ⟨t, sp, 0, 0, false⟩) sp)) (atE_get hs2) (by decide) rfl) (by rw [List.length_append, ecells_len]; have h1 := (hs2).1; have h2 := (hs2).2; (try simp only [setE_len] at h2); (try simp only [setE_len]); omega) ?_
     refine .nil (TQ.then (.seq (.region (.v (.assign rfl) (.nil (TQ.then (.ret ?_)))))))
     have e2 : D.take p t sp = (0, (D.set p ⟨t, sp, 0, 0, false⟩).addRefs sp 1) := by unfold Db.take; rw [if_neg (fun c => c hp), if_neg ht', if_neg (show ¬ (¬ D.space sp ∨ 63 ≤ (D.at sp).refs) from h3), if_neg h4]
     exact .ret results23 (.tmp rfl .nil) () (by rw [e2]; rfl) trivial (RDbA.finE (n := n) e2 (Db.ok.set (Db.ok.set hD hm hs2') (by rw [show (D.set p ⟨t, sp, 0, 0, false⟩).at sp = atE D.ents sp from hat]; exact Ety.ok_refs h0 hs.2 (by unfold Ety.ok at h0; omega)) (by show (atE (setE D.ents p ⟨t, sp, 0, 0, false⟩) sp).own < _; rw [hat]; rw [Db.set_len]; exact (ho.own hs.1).2)) (by rw [Db.addRefs, Db.set_len, Db.set_len]; exact hn) hc .pk)

set_option maxHeartbeats 400000 in
theorem S_wardenref12_DB_Turn {d m : Nat} {D : Db} {p t : Int} : Spec prog 25 [ptr d, i64 p, i64 t].toArray [RDbA d m D] (fun _ : Unit => True) (fun _ => i64 (D.turn p t).1) (fun _ => [RDbA d m (D.turn p t).2]) := by
 refine RDbA.open (fun b n cap j hn hD hc => ?_)
 have hl : n ≤ 64 := hn ▸ hD.pages.2
 have hl1 : 1 ≤ n := hn ▸ hD.pages.1
 have ho := hD.ent
 refine Spec.body func25 rfl ntmps25 rfl (fun σ R => ?_)
 refine .seq (.region (.v (.assign rfl) (.nil (TQ.then (.seq (.seq (.region (.v (.move rfl) (.v (.lss rfl rfl) (.v (.move rfl) ?_))))))))))
 refine' TL.orG (k := 8) (dj := 11) (d := 19) rfl ?_ ?_ ?_
 rotate_left
 ·
  intro g19 hd
  first | replace g19 := of_decide_eq_false g19 | skip
  refine .want rfl rfl (.v (.move rfl) (.want rfl rfl (.v (.move rfl) (.want rfl rfl (.v (.nilCheck rfl) (.want rfl rfl (.v (.field fo_76_1_WRef12 rfl) (.want rfl rfl (.v (.load isAgg74 rfl .tk (by rfl)) ?_)))))))))
  refine .want rfl rfl (.v (.len underlying74 rfl) ?_)
  refine .want rfl rfl (.v (.geq rfl rfl) (.v (.pick_false rfl rfl) (.nil ?_)))
  exact .keep (Sub.cons rfl (Sub.push rfl (Sub.push rfl (Sub.push rfl (Sub.push rfl (Sub.push rfl (Sub.push rfl (Sub.push rfl (Sub.push rfl (Sub.pushSame hd Sub.rfl'))))))))))
 ·
  intro g19 hd
  refine .skip rfl rfl rfl (.skip rfl rfl rfl (.skip rfl rfl rfl (.skip rfl rfl rfl (.skip rfl rfl rfl (.skip rfl rfl rfl (.skip rfl rfl rfl (.v (.pick_true rfl rfl) (.nil ?_))))))))
  exact .keep (Sub.cons rfl (Sub.push rfl (Sub.push rfl (Sub.push rfl (Sub.push rfl (Sub.push rfl (Sub.push rfl (Sub.push rfl (Sub.push rfl (Sub.pushSame hd Sub.rfl'))))))))))
 first | refine .boolOr ?_ | skip
 refine .nil (TQ.then ?_)
 first | refine .cond_dec rfl (fun h1 => ?_) (fun h1 => ?_) | refine .cond rfl (fun h1 => ?_) (fun h1 => ?_)
 ·
  refine .seq (.region (.v (.assign rfl) (.nil (TQ.then (.ret (.then_ret ?_))))))
  have e2 : D.turn p t = (5, D) := by unfold Db.turn; exact if_pos (by simp only [Db.has, hasE]; omega)
  exact .ret results25 (.tmp rfl .nil) () (by rw [e2]; rfl) trivial (RDbA.finE e2 hD hn hc .pk)
 ·
  have hp : hasE D.ents p := ⟨by omega, by omega⟩
  have h0 := ho.ok hp
  refine .skip (TQ.then (.seq (.region (.v (.move rfl) (.v (.nilCheck rfl) (.v (.field fo_76_1_WRef12 rfl) (.v (.load isAgg74 rfl .tk (by rfl)) ?_)))))))
  refine .v (.move rfl) ?_
  refine .v (.ixSlice underlying74 sizeOf104 rfl rfl (by have h1 := (hp).1; have h2 := (hp).2; (try simp only [setE_len] at h2); omega)) ?_
  refine .v (.field fo_104_0_WRef12 rfl) (.v (.load isAgg3 rfl .tk (ecells_field (atE_get (hp)) rfl)) ?_)
  refine .call call62 (S_wardenref12_turns) rfl .pk rfl (fun x28 hx28 => ?_)
  refine .v (.assign rfl) (.nil (TQ.then (.seq (.region (.v (.move rfl) (.call call62 (S_wardenref12_turns) rfl .pk rfl (fun x30 hx30 => ?_)))))))
  refine .v (.assign rfl) (.nil (TQ.then (.seq (.seq (.region (.v (.move rfl) (.v (by first | exact Val.not_dec rfl | exact Val.not rfl) ?_)))))))
  refine .v (.move rfl) ?_
  refine' TL.orG (k := 3) (dj := 33) (d := 36) rfl ?_ ?_ ?_
  rotate_left
  ·
   intro g36 hd
   first | replace g36 := of_decide_eq_false g36 | skip
   refine .want rfl rfl (.v (.move rfl) (.want rfl rfl (.v (by first | exact Val.not_dec rfl | exact Val.not rfl) ?_)))
   refine .v (.pick_false rfl rfl) (.nil ?_)
   exact .keep (Sub.cons rfl (Sub.push rfl (Sub.push rfl (Sub.push rfl (Sub.pushSame hd Sub.rfl')))))
  ·
   intro g36 hd
   refine .skip rfl rfl rfl (.skip rfl rfl rfl (.v (.pick_true rfl rfl) (.nil ?_)))
   exact .keep (Sub.cons rfl (Sub.push rfl (Sub.push rfl (Sub.push rfl (Sub.pushSame hd Sub.rfl')))))
  first | refine .boolOr ?_ | skip
  refine .nil (TQ.then ?_)
  first | refine .cond_dec rfl (fun h2 => ?_) (fun h2 => ?_) | refine .cond rfl (fun h2 => ?_) (fun h2 => ?_)
  ·
   refine .seq (.region (.v (.assign rfl) (.nil (TQ.then (.ret (.then_ret ?_))))))
   have e2 : D.turn p t = (124, D) := by unfold Db.turn; rw [if_neg (fun c => c hp)]; exact if_pos (Classical.not_and_iff_not_or_not.2 h2)
   exact .ret results25 (.tmp rfl .nil) () (by rw [e2]; rfl) trivial (RDbA.finE e2 hD hn hc .pk)
  ·
   have hts : turns (atE D.ents p).ty ∧ turns t := Classical.byContradiction fun c => h2 (Classical.not_and_iff_not_or_not.1 c)
   have hm : Ety.ok { atE D.ents p with ty := t } := Ety.ok_turn h0 hts.1 hts.2
   refine .skip (TQ.then (.seq (.region (.v (.move rfl) (.v (.nilCheck rfl) (.v (.field fo_76_1_WRef12 rfl) (.v (.load isAgg74 rfl .tk (by rfl)) ?_)))))))
   refine .v (.move rfl) (.v (.move rfl) ?_)
   refine .v (.ixSlice underlying74 sizeOf104 rfl rfl (by have h1 := (hp).1; have h2 := (hp).2; (try simp only [setE_len] at h2); omega)) ?_
   refine .v (.field fo_104_0_WRef12 rfl) ?_
   refine .storeTo (new := ecells (setE D.ents p { atE D.ents p with ty := t }) ++ j) sizeOf3 rfl rfl rfl .up (ecells_set (e := (atE D.ents p)) (atE_get hp) (by decide) rfl) (by rw [List.length_append, ecells_len]; have h1 := (hp).1; have h2 := (hp).2; (try simp only [setE_len] at h2); (try simp only [setE_len]); omega) ?_
   refine .nil (TQ.then (.seq (.draw (H := [.row d _ _]) (.q 0 (.q 1 (.q 2 (.q 3 (.q 4 (.e 5 (.e 6 .done))))))) (by kernel_rfl) .pk (by kernel_rfl) (by kernel_rfl) (by kernel_rfl) ?_)))
   refine .v rfl (.move rfl) (.v rfl (.nilCheck rfl) (.v rfl (.field fo_76_0_WRef12 rfl) (.v rfl (.load isAgg54 rfl .tk (by rfl)) ?_)))
   refine .v rfl (.move rfl) (.eff rfl (fun fu_ li_ hk_ hs_ hl_ => ?_))
   refine .call call54 (S_wardenref12_frame) rfl .pk rfl (fun x50 hx50 => ?_)
   refine .nil (TS.back hk_ hs_ hl_ .pk ?_)
   refine .eff rfl (fun fu_ li_ hk_ hs_ hl_ => ?_)
   refine .call call53 (S_wardenref07_Memory_Zero) rfl .pk rfl (fun x51 hx51 => ?_)
   refine .nil (TS.back hk_ hs_ hl_ .pk ?_)
   refine .done (TQ.then (.seq (.region (.v (.assign rfl) (.nil (TQ.then (.ret ?_)))))))
   have e2 : D.turn p t = (0, { D.set p { D.at p with ty := t } with mem := (D.mem.zero true p).2 }) := by unfold Db.turn; rw [if_neg (fun c => c hp)]; exact if_neg (fun c => c hts)
   exact .ret results25 (.tmp rfl .nil) () (by rw [e2]; rfl) trivial (RDbA.finE (n := n) e2 (Db.ok.mem (Db.ok.set hD hm (ho.own hp).2) Mem.zero_len.1) ((Db.set_len (e := { atE D.ents p with ty := t })).trans hn) hc .pk)

theorem fo_104_3_WRef12 : FieldOff prog 104 3 3 := FieldOff.of 3 1 underlying104 rfl sizeOf3 rfl
set_option maxHeartbeats 400000 in
theorem S_wardenref12_DB_SetState {d m : Nat} {D : Db} {p st : Int} : Spec prog 29 [ptr d, i64 p, i64 st].toArray [RDbA d m D] (fun _ : Unit => True) (fun _ => i64 (D.setState p st).1) (fun _ => [RDbA d m (D.setState p st).2]) := by
 refine RDbA.open (fun b n cap j hn hD hc => ?_)
 have hl : n ≤ 64 := hn ▸ hD.pages.2
 have hl1 : 1 ≤ n := hn ▸ hD.pages.1
 have ho := hD.ent
 refine Spec.body func29 rfl ntmps29 rfl (fun σ R => ?_)
 refine .seq (.region (.v (.assign rfl) (.nil (TQ.then (.seq (.seq (.region (.v (.move rfl) (.v (.lss rfl rfl) (.v (.move rfl) ?_))))))))))
 refine' TL.orG (k := 8) (dj := 9) (d := 17) rfl ?_ ?_ ?_
 rotate_left
 ·
  intro g17 hd
  first | replace g17 := of_decide_eq_false g17 | skip
  refine .want rfl rfl (.v (.move rfl) (.want rfl rfl (.v (.move rfl) (.want rfl rfl (.v (.nilCheck rfl) (.want rfl rfl (.v (.field fo_76_1_WRef12 rfl) (.want rfl rfl (.v (.load isAgg74 rfl .tk (by rfl)) ?_)))))))))
  refine .want rfl rfl (.v (.len underlying74 rfl) ?_)
  refine .want rfl rfl (.v (.geq rfl rfl) (.v (.pick_false rfl rfl) (.nil ?_)))
  exact .keep (Sub.cons rfl (Sub.push rfl (Sub.push rfl (Sub.push rfl (Sub.push rfl (Sub.push rfl (Sub.push rfl (Sub.push rfl (Sub.push rfl (Sub.pushSame hd Sub.rfl'))))))))))
 ·
  intro g17 hd
  refine .skip rfl rfl rfl (.skip rfl rfl rfl (.skip rfl rfl rfl (.skip rfl rfl rfl (.skip rfl rfl rfl (.skip rfl rfl rfl (.skip rfl rfl rfl (.v (.pick_true rfl rfl) (.nil ?_))))))))
  exact .keep (Sub.cons rfl (Sub.push rfl (Sub.push rfl (Sub.push rfl (Sub.push rfl (Sub.push rfl (Sub.push rfl (Sub.push rfl (Sub.push rfl (Sub.pushSame hd Sub.rfl'))))))))))
 first | refine .boolOr ?_ | skip
 refine .nil (TQ.then ?_)
 first | refine .cond_dec rfl (fun h1 => ?_) (fun h1 => ?_) | refine .cond rfl (fun h1 => ?_) (fun h1 => ?_)
 ·
  refine .seq (.region (.v (.assign rfl) (.nil (TQ.then (.ret (.then_ret ?_))))))
  have e2 : D.setState p st = (5, D) := by unfold Db.setState; exact if_pos (by simp only [Db.has, hasE]; omega)
  exact .ret results29 (.tmp rfl .nil) () (by rw [e2]; rfl) trivial (RDbA.finE e2 hD hn hc .pk)
 ·
  have hp : hasE D.ents p := ⟨by omega, by omega⟩
  have h0 := ho.ok hp
  refine .skip (TQ.then (.seq (.seq (.region (.v (.move rfl) (.v (.nilCheck rfl) (.v (.field fo_76_1_WRef12 rfl) (.v (.load isAgg74 rfl .tk (by rfl)) ?_))))))))
  refine .v (.move rfl) ?_
  refine .v (.ixSlice underlying74 sizeOf104 rfl rfl (by have h1 := (hp).1; have h2 := (hp).2; (try simp only [setE_len] at h2); omega)) ?_
  refine .v (.field fo_104_0_WRef12 rfl) (.v (.load isAgg3 rfl .tk (ecells_field (atE_get (hp)) rfl)) ?_)
  refine .v (.neq rfl rfl) (.nil (TQ.then ?_))
  first | refine .cond_dec rfl (fun h2 => ?_) (fun h2 => ?_) | refine .cond rfl (fun h2 => ?_) (fun h2 => ?_)
  ·
   refine .seq (.region (.v (.assign rfl) (.nil (TQ.then (.ret (.then_ret ?_))))))
   have e2 : D.setState p st = (124, D) := by unfold Db.setState; rw [if_neg (fun c => c hp), if_pos h2]
   exact .ret results29 (.tmp rfl .nil) () (by rw [e2]; rfl) trivial (RDbA.finE e2 hD hn hc .pk)
  ·
   refine .skip (TQ.then (.seq (.seq (.region (.v (.move rfl) (.v (.neq rfl rfl) (.v (.move rfl) ?_)))))))
   refine' TL.andG (k := 14) (dj := 29) (d := 43) rfl ?_ ?_ ?_
   rotate_left
   ·
    intro g43 hd
    first | replace g43 := of_decide_eq_true g43 | skip
    refine .want rfl rfl (.v (.move rfl) (.want rfl rfl (.v (.neq rfl rfl) (.want rfl rfl (.v (.move rfl) ?_)))))
    refine' TL.orG (k := 10) (dj := 32) (d := 42) rfl ?_ ?_ ?_
    rotate_left
    ·
     intro g42 hd
     first | replace g42 := of_decide_eq_false g42 | skip
     refine .want rfl rfl (.v (.move rfl) (.want rfl rfl (.v (.nilCheck rfl) (.want rfl rfl (.v (.field fo_76_1_WRef12 rfl) (.want rfl rfl (.v (.load isAgg74 rfl .tk (by rfl)) ?_)))))))
     refine .want rfl rfl (.v (.move rfl) (.want rfl rfl ?_))
     refine .v (.ixSlice underlying74 sizeOf104 rfl rfl (by have h1 := (hp).1; have h2 := (hp).2; (try simp only [setE_len] at h2); omega)) ?_
     refine .want rfl rfl (.v (.field fo_104_3_WRef12 rfl) (.want rfl rfl (.v (.load isAgg3 rfl .tk (ecells_field (atE_get (hp)) rfl)) ?_)))
     refine .want rfl rfl (.v (.neq rfl rfl) (.want rfl rfl (.v (.pick_false rfl rfl) (.nil ?_))))
     exact .keep (Sub.cons rfl (Sub.push rfl (Sub.push rfl (Sub.push rfl (Sub.push rfl (Sub.push rfl (Sub.push rfl (Sub.push rfl (Sub.push rfl (Sub.push rfl (Sub.push rfl (Sub.pushSame hd Sub.rfl'))))))))))))
    ·
     intro g42 hd
     refine .skip rfl rfl rfl (.skip rfl rfl rfl (.skip rfl rfl rfl (.skip rfl rfl rfl (.skip rfl rfl rfl (.skip rfl rfl rfl (.skip rfl rfl rfl (.skip rfl rfl rfl (.skip rfl rfl rfl (.want rfl rfl (.v (.pick_true rfl rfl) (.nil ?_)))))))))))
     exact .keep (Sub.cons rfl (Sub.push rfl (Sub.push rfl (Sub.push rfl (Sub.push rfl (Sub.push rfl (Sub.push rfl (Sub.push rfl (Sub.push rfl (Sub.push rfl (Sub.push rfl (Sub.pushSame hd Sub.rfl'))))))))))))
    first | refine .boolOr ?_ | skip
    refine .v (.pick_true rfl rfl) (.nil ?_)
    exact .keep (Sub.cons rfl (Sub.push rfl (Sub.push rfl (Sub.push rfl (Sub.push rfl (Sub.push rfl (Sub.pushSame hd Sub.rfl')))))))
   ·
    intro g43 hd
    refine .skip rfl rfl rfl (.skip rfl rfl rfl (.skip rfl rfl rfl (.skip_undef rfl rfl rfl (.skip_undef rfl rfl rfl (.skip_undef rfl rfl rfl (.skip_undef rfl rfl rfl (.skip_undef rfl rfl rfl (.skip_undef rfl rfl rfl (.skip_undef rfl rfl rfl (.skip_undef rfl rfl rfl (.skip_undef rfl rfl rfl (.skip rfl rfl rfl (.v (.pick_false rfl rfl) (.nil ?_))))))))))))))
    exact .keep (Sub.cons rfl (Sub.push rfl (Sub.push rfl (Sub.push rfl (Sub.push rfl (Sub.push rfl (Sub.push rfl (Sub.push rfl (Sub.push rfl (Sub.push rfl (Sub.push rfl (Sub.push rfl (Sub.push rfl (Sub.push rfl (Sub.push rfl (Sub.pushSame hd Sub.rfl'))))))))))))))))
   first | refine .boolAnd ?_ | skip
   refine .nil (TQ.then ?_)
   first | refine .cond_dec rfl (fun h3 => ?_) (fun h3 => ?_) | refine .cond rfl (fun h3 => ?_) (fun h3 => ?_)
   ·
    refine .seq (.region (.v (.assign rfl) (.nil (TQ.then (.ret (.then_ret ?_))))))
    have e2 : D.setState p st = (3, D) := by unfold Db.setState; rw [if_neg (fun c => c hp), if_neg h2]; exact if_pos (by simp only [Db.at]; omega)
    exact .ret results29 (.tmp rfl .nil) () (by rw [e2]; rfl) trivial (RDbA.finE e2 hD hn hc .pk)
   ·
    have hm : Ety.ok { atE D.ents p with st := st } := Ety.ok_state h0 (Classical.byContradiction h2) (by omega)
    refine .skip (TQ.then (.seq (.region (.v (.move rfl) (.v (.nilCheck rfl) (.v (.field fo_76_1_WRef12 rfl) (.v (.load isAgg74 rfl .tk (by rfl)) ?_)))))))
    refine .v (.move rfl) (.v (.move rfl) ?_)
    refine .v (.ixSlice underlying74 sizeOf104 rfl rfl (by have h1 := (hp).1; have h2 := (hp).2; (try simp only [setE_len] at h2); omega)) ?_
    refine .v (.field fo_104_3_WRef12 rfl) ?_
    refine .storeTo (new := ecells (setE D.ents p { atE D.ents p with st := st }) ++ j) sizeOf3 rfl rfl rfl .up (ecells_set (e := (atE D.ents p)) (atE_get hp) (by decide) rfl) (by rw [List.length_append, ecells_len]; have h1 := (hp).1; have h2 := (hp).2; (try simp only [setE_len] at h2); (try simp only [setE_len]); omega) ?_
    refine .nil (TQ.then (.seq (.region (.v (.assign rfl) (.nil (TQ.then (.ret ?_)))))))
    have e2 : D.setState p st = (0, D.set p { D.at p with st := st }) := by unfold Db.setState; rw [if_neg (fun c => c hp), if_neg h2]; exact if_neg (by simp only [Db.at]; omega)
    exact .ret results29 (.tmp rfl .nil) () (by rw [e2]; rfl) trivial (RDbA.finE (n := n) e2 (Db.ok.set hD hm (ho.own hp).2) ((Db.set_len (e := { atE D.ents p with st := st })).trans hn) hc .pk)

theorem fo_104_4_WRef12 : FieldOff prog 104 4 4 := FieldOff.of 4 1 underlying104 rfl sizeOf4 rfl
set_option maxHeartbeats 400000 in
theorem S_wardenref12_DB_SetEntered {d m : Nat} {D : Db} {p : Int} {on : Bool} : Spec prog 31 [ptr d, i64 p, .bool on].toArray [RDbA d m D] (fun _ : Unit => True) (fun _ => i64 (D.setEntered p on).1) (fun _ => [RDbA d m (D.setEntered p on).2]) := by
 refine RDbA.open (fun b n cap j hn hD hc => ?_)
 have hl : n ≤ 64 := hn ▸ hD.pages.2
 have hl1 : 1 ≤ n := hn ▸ hD.pages.1
 have ho := hD.ent
 refine Spec.body func31 rfl ntmps31 rfl (fun σ R => ?_)
 refine .seq (.region (.v (.assign rfl) (.nil (TQ.then (.seq (.seq (.region (.v (.move rfl) (.v (.lss rfl rfl) (.v (.move rfl) ?_))))))))))
 refine' TL.orG (k := 8) (dj := 9) (d := 17) rfl ?_ ?_ ?_
 rotate_left
 ·
  intro g17 hd
  first | replace g17 := of_decide_eq_false g17 | skip
  refine .want rfl rfl (.v (.move rfl) (.want rfl rfl (.v (.move rfl) (.want rfl rfl (.v (.nilCheck rfl) (.want rfl rfl (.v (.field fo_76_1_WRef12 rfl) (.want rfl rfl (.v (.load isAgg74 rfl .tk (by rfl)) ?_)))))))))
  refine .want rfl rfl (.v (.len underlying74 rfl) ?_)
  refine .want rfl rfl (.v (.geq rfl rfl) (.v (.pick_false rfl rfl) (.nil ?_)))
  exact .keep (Sub.cons rfl (Sub.push rfl (Sub.push rfl (Sub.push rfl (Sub.push rfl (Sub.push rfl (Sub.push rfl (Sub.push rfl (Sub.push rfl (Sub.pushSame hd Sub.rfl'))))))))))
 ·
  intro g17 hd
  refine .skip rfl rfl rfl (.skip rfl rfl rfl (.skip rfl rfl rfl (.skip rfl rfl rfl (.skip rfl rfl rfl (.skip rfl rfl rfl (.skip rfl rfl rfl (.v (.pick_true rfl rfl) (.nil ?_))))))))
  exact .keep (Sub.cons rfl (Sub.push rfl (Sub.push rfl (Sub.push rfl (Sub.push rfl (Sub.push rfl (Sub.push rfl (Sub.push rfl (Sub.push rfl (Sub.pushSame hd Sub.rfl'))))))))))
 first | refine .boolOr ?_ | skip
 refine .nil (TQ.then ?_)
 first | refine .cond_dec rfl (fun h1 => ?_) (fun h1 => ?_) | refine .cond rfl (fun h1 => ?_) (fun h1 => ?_)
 ·
  refine .seq (.region (.v (.assign rfl) (.nil (TQ.then (.ret (.then_ret ?_))))))
  have e2 : D.setEntered p on = (5, D) := by unfold Db.setEntered; exact if_pos (by simp only [Db.has, hasE]; omega)
  exact .ret results31 (.tmp rfl .nil) () (by rw [e2]; rfl) trivial (RDbA.finE e2 hD hn hc .pk)
 ·
  have hp : hasE D.ents p := ⟨by omega, by omega⟩
  have h0 := ho.ok hp
  refine .skip (TQ.then (.seq (.seq (.region (.v (.move rfl) (.v (.nilCheck rfl) (.v (.field fo_76_1_WRef12 rfl) (.v (.load isAgg74 rfl .tk (by rfl)) ?_))))))))
  refine .v (.move rfl) ?_
  refine .v (.ixSlice underlying74 sizeOf104 rfl rfl (by have h1 := (hp).1; have h2 := (hp).2; (try simp only [setE_len] at h2); omega)) ?_
  refine .v (.field fo_104_0_WRef12 rfl) (.v (.load isAgg3 rfl .tk (ecells_field (atE_get (hp)) rfl)) ?_)
  refine .v (.neq rfl rfl) (.nil (TQ.then ?_))
  first | refine .cond_dec rfl (fun h2 => ?_) (fun h2 => ?_) | refine .cond rfl (fun h2 => ?_) (fun h2 => ?_)
  ·
   refine .seq (.region (.v (.assign rfl) (.nil (TQ.then (.ret (.then_ret ?_))))))
   have e2 : D.setEntered p on = (124, D) := by unfold Db.setEntered; rw [if_neg (fun c => c hp), if_pos h2]
   exact .ret results31 (.tmp rfl .nil) () (by rw [e2]; rfl) trivial (RDbA.finE e2 hD hn hc .pk)
  ·
   have hm : Ety.ok { atE D.ents p with ent := on } := Ety.ok_entered h0 (Classical.byContradiction h2)
   refine .skip (TQ.then (.seq (.region (.v (.move rfl) (.v (.nilCheck rfl) (.v (.field fo_76_1_WRef12 rfl) (.v (.load isAgg74 rfl .tk (by rfl)) ?_)))))))
   refine .v (.move rfl) (.v (.move rfl) ?_)
   refine .v (.ixSlice underlying74 sizeOf104 rfl rfl (by have h1 := (hp).1; have h2 := (hp).2; (try simp only [setE_len] at h2); omega)) ?_
   refine .v (.field fo_104_4_WRef12 rfl) ?_
   refine .storeTo (new := ecells (setE D.ents p { atE D.ents p with ent := on }) ++ j) sizeOf4 rfl rfl rfl .up (ecells_set (e := (atE D.ents p)) (atE_get hp) (by decide) rfl) (by rw [List.length_append, ecells_len]; have h1 := (hp).1; have h2 := (hp).2; (try simp only [setE_len] at h2); (try simp only [setE_len]); omega) ?_
   refine .nil (TQ.then (.seq (.region (.v (.assign rfl) (.nil (TQ.then (.ret ?_)))))))
   have e2 : D.setEntered p on = (0, D.set p { D.at p with ent := on }) := by unfold Db.setEntered; rw [if_neg (fun c => c hp), if_neg h2]
   exact .ret results31 (.tmp rfl .nil) () (by rw [e2]; rfl) trivial (RDbA.finE (n := n) e2 (Db.ok.set hD hm (ho.own hp).2) ((Db.set_len (e := { atE D.ents p with ent := on })).trans hn) hc .pk)

theorem fo_104_1_WRef12 : FieldOff prog 104 1 1 := FieldOff.of 3 1 underlying104 rfl sizeOf3 rfl
set_option maxHeartbeats 400000 in
theorem S_wardenref12_DB_Give {d m : Nat} {D : Db} {p : Int} : Spec prog 27 [ptr d, i64 p].toArray [RDbA d m D] (fun _ : Unit => True) (fun _ => i64 (D.give p).1) (fun _ => [RDbA d m (D.give p).2]) := by
 refine RDbA.open (fun b n cap j hn hD hc => ?_)
 have hl : n ≤ 64 := hn ▸ hD.pages.2
 have hl1 : 1 ≤ n := hn ▸ hD.pages.1
 have ho := hD.ent
 refine Spec.body func27 rfl ntmps27 rfl (fun σ R => ?_)
 refine .seq (.region (.v (.assign rfl) (.nil (TQ.then (.seq (.seq (.region (.v (.move rfl) (.v (.lss rfl rfl) (.v (.move rfl) ?_))))))))))
 refine' TL.orG (k := 8) (dj := 9) (d := 17) rfl ?_ ?_ ?_
 rotate_left
 ·
  intro g17 hd
  first | replace g17 := of_decide_eq_false g17 | skip
  refine .want rfl rfl (.v (.move rfl) (.want rfl rfl (.v (.move rfl) (.want rfl rfl (.v (.nilCheck rfl) (.want rfl rfl (.v (.field fo_76_1_WRef12 rfl) (.want rfl rfl (.v (.load isAgg74 rfl .tk (by rfl)) ?_)))))))))
  refine .want rfl rfl (.v (.len underlying74 rfl) ?_)
  refine .want rfl rfl (.v (.geq rfl rfl) (.v (.pick_false rfl rfl) (.nil ?_)))
  exact .keep (Sub.cons rfl (Sub.push rfl (Sub.push rfl (Sub.push rfl (Sub.push rfl (Sub.push rfl (Sub.push rfl (Sub.push rfl (Sub.push rfl (Sub.pushSame hd Sub.rfl'))))))))))
 ·
  intro g17 hd
  refine .skip rfl rfl rfl (.skip rfl rfl rfl (.skip rfl rfl rfl (.skip rfl rfl rfl (.skip rfl rfl rfl (.skip rfl rfl rfl (.skip rfl rfl rfl (.v (.pick_true rfl rfl) (.nil ?_))))))))
  exact .keep (Sub.cons rfl (Sub.push rfl (Sub.push rfl (Sub.push rfl (Sub.push rfl (Sub.push rfl (Sub.push rfl (Sub.push rfl (Sub.push rfl (Sub.pushSame hd Sub.rfl'))))))))))
 first | refine .boolOr ?_ | skip
 refine .nil (TQ.then ?_)
 first | refine .cond_dec rfl (fun h1 => ?_) (fun h1 => ?_) | refine .cond rfl (fun h1 => ?_) (fun h1 => ?_)
 ·
  refine .seq (.region (.v (.assign rfl) (.nil (TQ.then (.ret (.then_ret ?_))))))
  have e2 : D.give p = (5, D) := by unfold Db.give; exact if_pos (by simp only [Db.has, hasE]; omega)
  exact .ret results27 (.tmp rfl .nil) () (by rw [e2]; rfl) trivial (RDbA.finE e2 hD hn hc .pk)
 ·
  have hp : hasE D.ents p := ⟨by omega, by omega⟩
  have h0 := ho.ok hp
  have hw := ho.own hp
  have hp2 := hp.1
  have hp3 := hp.2
  have hf : Ety.ok .free := by decide
  have ho2 : okE (setE D.ents p .free) := okE.set ho hf (by show (0 : Int) < _; omega)
  have hn2 : (setE D.ents p .free).length = n := setE_len.trans hn
  refine .skip (TQ.then (.seq (.region (.v (.move rfl) (.v (.nilCheck rfl) (.v (.field fo_76_1_WRef12 rfl) (.v (.load isAgg74 rfl .tk (by rfl)) ?_)))))))
  refine .v (.move rfl) ?_
  refine .v (.ixSlice underlying74 sizeOf104 rfl rfl (by have h1 := (hp).1; have h2 := (hp).2; (try simp only [setE_len] at h2); omega)) ?_
  refine .v (.loadAgg (vs := [_, _, _, _, _]) isAgg104 sizeOf104 rfl .tk (ecells_get (atE_get (hp))) rfl) ?_
  refine .alloc zeroValue104 rfl rfl (fun b5 => ?_)
  refine .storeAll (us := [_, _, _, _, _]) sizeOf104 rfl rfl rfl rfl .up rfl ?_
  refine .nil (TQ.then (.seq (.seq (.region (.v (.field fo_104_0_WRef12 rfl) (.v (.load isAgg3 rfl .tk (by rfl)) ?_))))))
  refine .v (.eql rfl rfl) (.nil (TQ.then ?_))
  first | refine .cond_dec rfl (fun h2 => ?_) (fun h2 => ?_) | refine .cond rfl (fun h2 => ?_) (fun h2 => ?_)
  ·
   refine .seq (.region (.v (.assign rfl) (.nil (TQ.then (.ret (.then_ret ?_))))))
   have e2 : D.give p = (121, D) := by unfold Db.give; rw [if_neg (fun c => c hp), if_pos h2]
   exact .ret results27 (.tmp rfl .nil) () (by rw [e2]; rfl) trivial (RDbA.finE e2 hD hn hc .pk)
  ·
   refine .skip (TQ.then (.seq (.seq (.region (.v (.field fo_104_0_WRef12 rfl) (.v (.load isAgg3 rfl .tk (by rfl)) ?_))))))
   refine .v (.eql rfl rfl) (.v (.move rfl) ?_)
   refine' TL.andG (k := 4) (dj := 31) (d := 35) rfl ?_ ?_ ?_
   rotate_left
   ·
    intro g35 hd
    first | replace g35 := of_decide_eq_true g35 | skip
    refine .want rfl rfl (.v (.field fo_104_2_WRef12 rfl) (.want rfl rfl (.v (.load isAgg3 rfl .tk (by rfl)) ?_)))
    refine .want rfl rfl (.v (.gtr rfl rfl) (.v (.pick_true rfl rfl) (.nil ?_)))
    exact .keep (Sub.cons rfl (Sub.push rfl (Sub.push rfl (Sub.push rfl (Sub.push rfl (Sub.pushSame hd Sub.rfl'))))))
   ·
    intro g35 hd
    refine .skip rfl rfl rfl (.skip rfl rfl rfl (.skip rfl rfl rfl (.v (.pick_false rfl rfl) (.nil ?_))))
    exact .keep (Sub.cons rfl (Sub.push rfl (Sub.push rfl (Sub.push rfl (Sub.push rfl (Sub.pushSame hd Sub.rfl'))))))
   first | refine .boolAnd ?_ | skip
   refine .nil (TQ.then ?_)
   first | refine .cond_dec rfl (fun h3 => ?_) (fun h3 => ?_) | refine .cond rfl (fun h3 => ?_) (fun h3 => ?_)
   ·
    refine .seq (.region (.v (.assign rfl) (.nil (TQ.then (.ret (.then_ret ?_))))))
    have e2 : D.give p = (123, D) := by unfold Db.give; rw [if_neg (fun c => c hp), if_neg h2, if_pos h3]
    exact .ret results27 (.tmp rfl .nil) () (by rw [e2]; rfl) trivial (RDbA.finE e2 hD hn hc .pk)
   ·
    refine .skip (TQ.then (.seq (.region (.v (.move rfl) (.v (.nilCheck rfl) (.v (.field fo_76_1_WRef12 rfl) (.v (.load isAgg74 rfl .tk (by rfl)) ?_)))))))
    refine .v (.move rfl) (.v (.build (cs := [_, _, _, _, _]) zeroValue104 pl_104_WRef12 rfl rfl) ?_)
    refine .v (.ixSlice underlying74 sizeOf104 rfl rfl (by have h1 := (hp).1; have h2 := (hp).2; (try simp only [setE_len] at h2); omega)) ?_
    refine .storeAggTo (us := [_, _, _, _, _]) (new := ecells (setE D.ents p .free) ++ j) sizeOf104 rfl rfl rfl rfl .up (ecells_put (e' := .free) (by have h1 := (hp).1; have h2 := (hp).2; omega)) (by rw [List.length_append, ecells_len]; have h1 := (hp).1; have h2 := (hp).2; (try simp only [setE_len] at h2); (try simp only [setE_len]); omega) ?_
    refine .nil (TQ.then (.seq (.draw (H := [.row d _ _]) (.q 0 (.q 1 (.q 2 (.q 3 (.q 4 (.e 5 (.e 6 .done))))))) (by kernel_rfl) .pk (by kernel_rfl) (by kernel_rfl) (by kernel_rfl) ?_)))
    refine .v rfl (.move rfl) (.v rfl (.nilCheck rfl) (.v rfl (.field fo_76_0_WRef12 rfl) (.v rfl (.load isAgg54 rfl .tk (by rfl)) ?_)))
    refine .v rfl (.move rfl) (.eff rfl (fun fu_ li_ hk_ hs_ hl_ => ?_))
    refine .call call54 (S_wardenref12_frame) rfl .pk rfl (fun x48 hx48 => ?_)
    refine .nil (TS.back hk_ hs_ hl_ .pk ?_)
    refine .eff rfl (fun fu_ li_ hk_ hs_ hl_ => ?_)
    refine .call call53 (S_wardenref07_Memory_Zero) rfl .pk rfl (fun x49 hx49 => ?_)
    refine .nil (TS.back hk_ hs_ hl_ .pk ?_)
    refine .done (TQ.then (.seq (.region (.v (.move rfl) (.v (.field fo_104_1_WRef12 rfl) (.v (.load isAgg3 rfl .tk (by rfl)) ?_))))))
    refine .call call61 (S_wardenref12_DB_is (setE_len.trans hn) hl) rfl .pk rfl (fun x53 hx53 => ?_)
    refine .v (.assign rfl) (.nil (TQ.then (.seq (.seq (.draw (H := [.row b5 _ _, .row d _ _, .row b _ _]) (.q 0 (.q 1 (.q 2 (.q 3 (.q 4 (.q 5 (.q 6 (.q 7 (.q 8 (.q 9 (.q 10 (.q 11 (.q 12 (.q 13 (.q 14 (.q 15 (.q 16 (.q 17 .done)))))))))))))))))) (by kernel_rfl) .pk (by kernel_rfl) (by kernel_rfl) (by kernel_rfl) ?_)))))
    refine .v rfl (.field fo_104_0_WRef12 rfl) (.v rfl (.load isAgg3 rfl .tk (by rfl)) ?_)
    refine .v rfl (.neq rfl rfl) (.v rfl (.move rfl) ?_)
    first | refine .part_dec (dj := 57) rfl (fun h4 => ?_) (fun h4 => ?_) | refine .part (dj := 57) rfl (fun h4 => ?_) (fun h4 => ?_)
    ·
     refine .want rfl rfl rfl (.move rfl) rfl ?_
     refine .v rfl (.pick_true rfl rfl) (.v rfl (.move rfl) ?_)
     first | refine .part_dec (dj := 60) rfl (fun h5 => ?_) (fun h5 => ?_) | refine .part (dj := 60) rfl (fun h5 => ?_) (fun h5 => ?_)
     ·
      refine .want rfl rfl rfl (.move rfl) rfl ?_
      refine .want rfl rfl rfl (.nilCheck rfl) rfl ?_
      refine .want rfl rfl rfl (.field fo_76_1_WRef12 rfl) rfl ?_
      refine .want rfl rfl rfl (.load isAgg74 rfl .tk (by rfl)) rfl ?_
      refine .want rfl rfl rfl (.field fo_104_1_WRef12 rfl) rfl ?_
      refine .want rfl rfl rfl (.load isAgg3 rfl .tk (by rfl)) rfl ?_
      refine .want rfl rfl rfl (.ixSlice underlying74 sizeOf104 rfl rfl (by have h1 := (h5.1).1; have h2 := (h5.1).2; (try simp only [setE_len] at h2); omega)) rfl ?_
      refine .want rfl rfl rfl (.field fo_104_2_WRef12 rfl) rfl ?_
      refine .want rfl rfl rfl (.load isAgg3 rfl .tk (ecells_field (atE_get (h5.1)) rfl)) rfl ?_
      refine .want rfl rfl rfl (.gtr rfl rfl) rfl ?_
      refine .v rfl (.pick_true rfl rfl) (.done (TQ.then ?_))
      first | refine .cond_dec rfl (fun h6 => ?_) (fun h6 => ?_) | refine .cond rfl (fun h6 => ?_) (fun h6 => ?_)
      ·
       have hrr := ho2.ok h5.1
       have hrr2 : 0 ≤ (atE (setE D.ents p .free) (atE D.ents p).own).refs ∧ (atE (setE D.ents p .free) (atE D.ents p).own).refs ≤ 63 := by unfold Ety.ok at hrr; omega
       refine .draw (H := [.row b5 _ _, .row d _ _]) (.q 0 (.q 1 (.q 2 (.q 3 (.q 4 (.q 5 (.q 6 (.q 7 (.e 8 (.q 9 (.q 10 (.q 11 (.e 12 .done))))))))))))) (by kernel_rfl) .pk (by kernel_rfl) (by kernel_rfl) (by kernel_rfl) ?_
       refine .v rfl (.move rfl) (.v rfl (.nilCheck rfl) (.v rfl (.field fo_76_1_WRef12 rfl) (.v rfl (.load isAgg74 rfl .tk (by rfl)) ?_)))
       refine .v rfl (.field fo_104_1_WRef12 rfl) (.v rfl (.load isAgg3 rfl .tk (by rfl)) ?_)
       refine .v rfl (.ixSlice underlying74 sizeOf104 rfl rfl (by have h1 := (h5.1).1; have h2 := (h5.1).2; (try simp only [setE_len] at h2); omega)) ?_
       refine .v rfl (.field fo_104_2_WRef12 rfl) (.eff rfl (fun fu_ li_ hk_ hs_ hl_ => ?_))
       refine .v (.load isAgg3 rfl .tk (ecells_field (atE_get (h5.1)) rfl)) ?_
       refine .nil (TS.back hk_ hs_ hl_ .pk ?_)
       refine .v rfl (.sub64 rfl rfl (by omega)) ?_
       refine .v rfl (.ixSlice underlying74 sizeOf104 rfl rfl (by have h1 := (h5.1).1; have h2 := (h5.1).2; (try simp only [setE_len] at h2); omega)) ?_
       refine .v rfl (.field fo_104_2_WRef12 rfl) (.eff rfl (fun fu_ li_ hk_ hs_ hl_ => ?_))
       refine .storeTo (new := ecells (setE (setE D.ents p .free) (atE D.ents p).own { atE (setE D.ents p .free) (atE D.ents p).own with refs := (atE (setE D.ents p .free) (atE D.ents p).own).refs + (-1) }) ++ j) sizeOf3 rfl rfl rfl .up (ecells_set (e := (atE (setE D.ents p .free) (atE D.ents p).own)) (atE_get h5.1) (by decide) rfl) (by rw [List.length_append, ecells_len]; have h1 := (h5.1).1; have h2 := (h5.1).2; (try simp only [setE_len] at h2); (try simp only [setE_len]); omega) ?_
       refine .nil (TS.back hk_ hs_ hl_ .pk ?_)
       refine .done (TQ.then (.seq (.region (.v (.assign rfl) (.nil (TQ.then (.ret ?_)))))))
       have h1 := ho2.ok h5.1
       have e2 : D.give p = (0, { (D.set p .free).addRefs (D.at p).own (-1) with mem := (D.mem.zero true p).2 }) := by unfold Db.give; rw [if_neg (fun c => c hp), if_neg h2, if_neg h3]; simp only [if_pos (show (D.at p).ty ≠ 1 ∧ (D.set p .free).space (D.at p).own ∧ 0 < ((D.set p .free).at (D.at p).own).refs from ⟨h4, h5, h6⟩)]
       exact .ret results27 (.tmp rfl .nil) () (by rw [e2]; rfl) trivial (RDbA.finE (n := n) e2 (Db.ok.mem (Db.ok.set (Db.ok.set hD hf (by show (0 : Int) < _; omega)) (Ety.ok_refs h1 h5.2 (by unfold Ety.ok at h1; omega)) (ho2.own h5.1).2) Mem.zero_len.1) (by rw [Db.addRefs, Db.set_len, Db.set_len]; exact hn) hc .pk)
      ·
       refine .skip (TQ.then (.seq (.region (.v (.assign rfl) (.nil (TQ.then (.ret ?_)))))))
       have e2 : D.give p = (0, { D.set p .free with mem := (D.mem.zero true p).2 }) := by unfold Db.give; rw [if_neg (fun c => c hp), if_neg h2, if_neg h3]; simp only [if_neg (show ¬ ((D.at p).ty ≠ 1 ∧ (D.set p .free).space (D.at p).own ∧ 0 < ((D.set p .free).at (D.at p).own).refs) from fun c => h6 c.2.2)]
       exact .ret results27 (.tmp rfl .nil) () (by rw [e2]; rfl) trivial (RDbA.finE (n := n) e2 (Db.ok.mem (Db.ok.set hD hf (by show (0 : Int) < _; omega)) Mem.zero_len.1) hn2 hc .pk)
     ·
      refine .skip rfl rfl rfl rfl (.skip rfl rfl rfl rfl (.skip rfl rfl rfl rfl (.skip rfl rfl rfl rfl (.skip rfl rfl rfl rfl (.skip rfl rfl rfl rfl (.skip rfl rfl rfl rfl (.skip rfl rfl rfl rfl (.skip rfl rfl rfl rfl (.skip rfl rfl rfl rfl (.v rfl (.pick_false rfl rfl) (.done (TQ.then (.cond_false rfl (.skip (TQ.then (.seq (.region (.v (.assign rfl) (.nil (TQ.then (.ret ?_)))))))))))))))))))))
      have e2 : D.give p = (0, { D.set p .free with mem := (D.mem.zero true p).2 }) := by unfold Db.give; rw [if_neg (fun c => c hp), if_neg h2, if_neg h3]; simp only [if_neg (show ¬ ((D.at p).ty ≠ 1 ∧ (D.set p .free).space (D.at p).own ∧ 0 < ((D.set p .free).at (D.at p).own).refs) from fun c => h5 c.2.1)]
      exact .ret results27 (.tmp rfl .nil) () (by rw [e2]; rfl) trivial (RDbA.finE (n := n) e2 (Db.ok.mem (Db.ok.set hD hf (by show (0 : Int) < _; omega)) Mem.zero_len.1) hn2 hc .pk)
    ·
     refine .skip rfl rfl rfl rfl (.v rfl (.pick_false rfl rfl) (.v rfl (.move rfl) (.skip rfl rfl rfl rfl (.skip rfl rfl rfl rfl (.skip rfl rfl rfl rfl (.skip rfl rfl rfl rfl (.skip rfl rfl rfl rfl (.skip rfl rfl rfl rfl (.skip rfl rfl rfl rfl (.skip rfl rfl rfl rfl (.skip rfl rfl rfl rfl (.skip rfl rfl rfl rfl (.v rfl (.pick_false rfl rfl) (.done (TQ.then (.cond_false rfl (.skip (TQ.then (.seq (.region (.v (.assign rfl) (.nil (TQ.then (.ret ?_))))))))))))))))))))))))
     have e2 : D.give p = (0, { D.set p .free with mem := (D.mem.zero true p).2 }) := by unfold Db.give; rw [if_neg (fun c => c hp), if_neg h2, if_neg h3]; simp only [if_neg (show ¬ ((D.at p).ty ≠ 1 ∧ (D.set p .free).space (D.at p).own ∧ 0 < ((D.set p .free).at (D.at p).own).refs) from fun c => h4 c.1)]
     exact .ret results27 (.tmp rfl .nil) () (by rw [e2]; rfl) trivial (RDbA.finE (n := n) e2 (Db.ok.mem (Db.ok.set hD hf (by show (0 : Int) < _; omega)) Mem.zero_len.1) hn2 hc .pk)

set_option maxHeartbeats 400000 in
theorem S_wardenref12_DB_Words {d m : Nat} {D : Db} : Spec prog 44 [ptr d].toArray [RDbA d m D] (fun x : Nat × Nat × List Value => 1 + 2 * D.ents.length ≤ x.2.1) (fun x => .slice (some ⟨x.1, 0, none⟩) (1 + 2 * D.ents.length) x.2.1) (fun x => [RDbA d m D, .row x.1 (w32s D.words ++ x.2.2) 23]) := by
 refine RDbA.open (fun b n cap j hn hD hc => ?_)
 have hl : n ≤ 64 := hn ▸ hD.pages.2
 have hl1 : 1 ≤ n := hn ▸ hD.pages.1
 have ho := hD.ent
 refine Spec.body func44 rfl ntmps44 rfl (fun σ R => ?_)
 refine .seq (.region (.v (.assign rfl) (.nil (TQ.then (.seq (.region (.v (.move rfl) (.v (.nilCheck rfl) (.v (.field fo_76_2_WRef12 rfl) (.v (.load isAgg3 rfl .tk (by rfl)) ?_))))))))))
 refine .v (.conv_64_32 underlying3 underlying23 rfl) ?_
 refine .buildSlice (zs := [.int .u32 0]) (cs := [_]) underlying31 sizeOf23 zeroValue23 rfl rfl rfl (by kernel_rfl) rfl rfl (fun b12 => ?_)
 refine .v (.assign rfl) (.nil (TQ.then (.seq (.seq (.ent (Ent.trans (Ent.perm (M := [.row b12 [w32 (BitVec.ofInt 32 D.births)] 23]) .pk) (GSl.row (k := 1) (n := 1) (cap := 1) (l := [w32 (BitVec.ofInt 32 D.births)]) (j := []) rfl (by omega) (by decide) rfl)) ?_)))))
 refine .region (.v (.assign rfl) (.nil (TQ.then (.block (.loop (X := {i : Nat // i ≤ n} × Value) (s0 := [(0, _)]) (fun x => [(3, x.2), (4, i64 x.1.1)]) (fun x => [GSl 23 1 x.2 (1 + 2 * x.1.1) (w32s (BitVec.ofInt 32 D.births :: encs (D.ents.take x.1.1)))]) (fun x => n - x.1.1) (⟨0, by omega⟩, .slice (some ⟨b12, 0, none⟩) 1 1) .st .pk (fun x => ?_))))))
 refine .seq (.seq (.region (.v (.move rfl) (.v (.move rfl) (.v (.nilCheck rfl) (.v (.field fo_76_1_WRef12 rfl) (.v (.load isAgg74 rfl .tk (by rfl)) ?_)))))))
 refine .v (.len underlying74 rfl) ?_
 refine .v (.lss rfl rfl) (.nil (TQ.then ?_))
 first | refine .cond_dec rfl (fun h1 => ?_) (fun h1 => ?_) | refine .cond rfl (fun h1 => ?_) (fun h1 => ?_)
 ·
  obtain ⟨⟨i, hi⟩, v⟩ := x
  dsimp only at h1 ⊢
  have hlt : i < n := by omega
  have hp : hasE D.ents (i : Int) := hasE_nat (by omega)
  refine .skip (TQ.then (.seq (.block (.seq (.region (.v (.move rfl) (.v (.nilCheck rfl) (.v (.field fo_76_1_WRef12 rfl) (.v (.load isAgg74 rfl .tk (by rfl)) ?_)))))))))
  refine .v (.move rfl) ?_
  refine .v (.ixSlice underlying74 sizeOf104 rfl rfl (by have h1 := (hp).1; have h2 := (hp).2; (try simp only [setE_len] at h2); omega)) ?_
  refine .v (.loadAgg (vs := [_, _, _, _, _]) isAgg104 sizeOf104 rfl .tk (ecells_get (atE_get (hp))) rfl) ?_
  refine .call call88 (S_wardenref11_Encode (e := atE D.ents i)) rfl .pk rfl (fun x30 hx30 => ?_)
  refine .v (.move rfl) (.v (.extract rfl rfl) (.v (.extract rfl rfl) (.alloc zeroValue155 rfl rfl (fun b5 => ?_))))
  refine .storeAll (us := [_, _]) sizeOf155 rfl rfl rfl rfl .up rfl ?_
  refine .v (.assign rfl) (.nil (TQ.then (.region (.v (.move rfl) (.v (.ixArr1 underlying155 sizeOf23 rfl rfl (by omega)) ?_)))))
  refine .v (.load isAgg23 rfl .tk (by rfl)) ?_
  refine .v (.ixArr1 underlying155 sizeOf23 rfl rfl (by omega)) ?_
  refine .v (.load isAgg23 rfl .tk (by rfl)) ?_
  refine .buildSlice (zs := [.int .u32 0, .int .u32 0]) (cs := [_, _]) underlying31 sizeOf23 zeroValue23 rfl rfl rfl (by kernel_rfl) rfl rfl (fun b38 => ?_)
  refine .append (k := 1) (us := [w32 (atE D.ents i).e0, w32 (atE D.ents i).e1]) underlying31 typeInfo23 rfl rfl rfl rfl (by decide) rfl rfl .tk .tk (by rfl) (by rfl) rfl (by simp only [t23]; omega) rfl (fun v39 hv39 => ?_)
  refine .v (.assign rfl) (.nil (.blk_normal (TQ.then (.region (.v (.move rfl) (.v (.add64 rfl rfl (by omega)) ?_))))))
  refine .v (.assign rfl) (.nil ?_)
  rw [show w32s (BitVec.ofInt 32 D.births :: encs (D.ents.take i)) ++ [w32 (atE D.ents i).e0, w32 (atE D.ents i).e1] = w32s (BitVec.ofInt 32 D.births :: encs (D.ents.take (i + 1))) from by
   rw [← encs_take_succ (i := i) (e := atE D.ents i) (atE_get hp), show [w32 (atE D.ents i).e0, w32 (atE D.ents i).e1] = w32s [(atE D.ents i).e0, (atE D.ents i).e1] from rfl, ← w32s_append]; rfl,
   show 1 + 2 * i + 2 = 1 + 2 * (i + 1) by omega]
  exact .next (⟨i + 1, by omega⟩, v39) (by dsimp only; omega) .st .en
 ·
  refine .exit (.then_exit (.then_exit (.blk_hit (TQ.then (.seq ?_)))))
  obtain ⟨⟨i, hi⟩, v⟩ := x
  obtain rfl : i = n := by dsimp only at h1; omega
  dsimp only
  refine .ent (Ent.trans (Ent.perm (M := [GSl _ _ _ _ _]) .pk) GSl.openE) ?_
  refine .ex .here (fun y => ?_)
  rcases y with _ | ⟨g, gc, jj⟩
  ·
   refine .fact .here (fun hy => ?_)
   exfalso; omega
  refine .allL .here ?_
  refine .fact .here (fun hy => ?_)
  obtain ⟨rfl, hy1, hy2, hy3, hy4⟩ := hy
  refine .region (.v (.move rfl) (.v (.assign rfl) (.nil (TQ.then (.ret ?_)))))
  rw [show w32s (BitVec.ofInt 32 D.births :: encs (D.ents.take i)) = w32s D.words from by rw [List.take_of_length_le (by omega)]; rfl]
  exact .ret results44 (.tmp rfl .nil) (g, gc, jj) (by rw [hn]; rfl) (by rw [hn]; exact hy2) (RDbA.fin' hD hn hc .pk)

theorem pl_76_WRef12 : Places prog 76 [(0, 1), (1, 1), (2, 1)] := ⟨_, underlying76, fun w => by simp [sizeOf3, sizeOf54, sizeOf74]⟩
set_option maxHeartbeats 400000 in
theorem S_wardenref12_New {m : Nat} {M : Mem} (hM : 1 ≤ M.sec.length ∧ M.sec.length ≤ 64) : Spec prog 19 [ptr m].toArray [RMemA m M] (fun x : Nat => True) (fun x => ptr x) (fun x => [RDbA x m (Db.new M)]) := by
 refine Spec.body func19 rfl ntmps19 rfl (fun σ R => ?_)
 refine .seq (.region (.v (.assign rfl) (.nil (TQ.then (.seq (.seq (.region (.v (.move rfl) (.v (.eqlNil underlying54 rfl rfl) ?_)))))))))
 refine .nil (TQ.then ?_)
 first | refine .cond_dec rfl (fun h1 => ?_) (fun h1 => ?_) | refine .cond rfl (fun h1 => ?_) (fun h1 => ?_)
 ·
  cases h1
 ·
  refine .skip (TQ.then (.seq (.region (.v (.move rfl) (.v (.build (cs := [_, _, _]) zeroValue76 pl_76_WRef12 rfl rfl) ?_)))))
  refine .box (vs := [_, _, _]) rfl rfl rfl (fun b9 => ?_)
  refine .v (.assign rfl) (.nil (TQ.then (.seq (.seq (.ent (GSl.emp (E := 104) (k := 5)) ?_)))))
  refine .region (.v (.assign rfl) (.nil (TQ.then (.block (.loop (X := {p : Nat // p ≤ M.sec.length} × Value) (s0 := [(0, _), (3, _)]) (fun x => [(4, i64 x.1.1)]) (fun x => [RMemA m (M.wipe x.1.1), .row b9 [ptr m, x.2, i64 0] 76, GSl 104 5 x.2 x.1.1 (ecells (List.replicate x.1.1 .free))]) (fun x => M.sec.length - x.1.1) (⟨0, by omega⟩, .slice none 0 0) .st .pk (fun x => ?_))))))
  refine .seq (.seq ?_)
  have hw := (Mem.wipe_len (M := M) (n := x.1.1)).1
  refine .region (.v (.move rfl) (.v (.move rfl) (.call call52 (S_wardenref07_Memory_Secure) rfl .pk rfl (fun x12 hx12 => ?_))))
  refine .v (.lss rfl rfl) (.nil (TQ.then ?_))
  first | refine .cond_dec rfl (fun h2 => ?_) (fun h2 => ?_) | refine .cond rfl (fun h2 => ?_) (fun h2 => ?_)
  ·
   obtain ⟨⟨i, hi⟩, v⟩ := x
   dsimp only at h2 hw ⊢
   have hlt : i < M.sec.length := by omega
   refine .skip (TQ.then (.seq (.block (.seq (.region (.v (.move rfl) (.v (.move rfl) (.call call54 (S_wardenref12_frame) rfl .pk rfl (fun x18 hx18 => ?_)))))))))
   refine .call call53 (S_wardenref07_Memory_Zero) rfl .pk rfl (fun x19 hx19 => ?_)
   refine .nil (TQ.then (.region (.v (.move rfl) (.v (.move rfl) (.v (.nilCheck rfl) (.v (.field fo_76_1_WRef12 rfl) (.v (.load isAgg74 rfl .tk (by rfl)) ?_)))))))
   refine .v (.build (cs := [_, _, _, _, _]) zeroValue104 pl_104_WRef12 rfl rfl) ?_
   refine .buildSlice1 (zs := [.int .i64 0, .int .i64 0, .int .i64 0, .int .i64 0, .bool false]) (us := [_, _, _, _, _]) underlying74 sizeOf104 zeroValue104 rfl rfl rfl rfl rfl (by kernel_rfl) rfl (fun b26 => ?_)
   refine .append (k := 5) (us := Ety.free.cells) underlying74 typeInfo104 rfl rfl rfl rfl (by decide) rfl rfl .tk .tk (by rfl) (by rfl) rfl (by simp only [t104]; omega) rfl (fun v27 hv27 => ?_)
   refine .v (.nilCheck rfl) (.v (.field fo_76_1_WRef12 rfl) (.store sizeOf74 rfl rfl hv27 .up (by rfl) ?_))
   refine .nil (.blk_normal (TQ.then (.region (.v (.move rfl) (.v (.add64 rfl rfl (by omega)) ?_)))))
   refine .v (.assign rfl) (.nil ?_)
   rw [show ecells (List.replicate i .free) ++ Ety.free.cells = ecells (List.replicate (i + 1) .free) from by rw [ecells_snoc, List.replicate_succ']]
   exact .next (⟨i + 1, by omega⟩, v27) (by dsimp only; omega) .st .en
  ·
   refine .exit (.then_exit (.then_exit (.blk_hit (TQ.then (.seq ?_)))))
   obtain ⟨⟨i, hi⟩, v⟩ := x
   obtain rfl : i = M.sec.length := by dsimp only at h2 hw; omega
   dsimp only
   refine .ent (Ent.trans (Ent.perm (M := [GSl _ _ _ _ _]) .pk) GSl.openE) ?_
   refine .ex .here (fun y => ?_)
   rcases y with _ | ⟨g, gc, jj⟩
   ·
    refine .fact .here (fun hy => ?_)
    exfalso; omega
   refine .allL .here ?_
   refine .fact .here (fun hy => ?_)
   obtain ⟨rfl, hy1, hy2, hy3, hy4⟩ := hy
   refine .region (.v (.move rfl) (.v (.assign rfl) (.nil (TQ.then (.ret ?_)))))
   exact .ret results19 (.tmp rfl .nil) b9 (rfl) trivial (RDbA.fin (D := Db.new M) (n := M.sec.length) (Db.new_ok hM.2 hM.1) (by simp [Db.new]) hy2 .pk)

def RLoadP (m : Nat) (M : Mem) (ws : List W) : Option Nat → Assn
 | none => RMemA m M
 | some d => RDbA d m (Db.loadE M ws)

set_option maxHeartbeats 400000 in
theorem S_wardenref12_Load {m bs wc : Nat} {M : Mem} {ws : List W} {jw : List Value} (hM : 1 ≤ M.sec.length ∧ M.sec.length ≤ 64) (hw : ws.length ≤ 1000 ∧ ws.length ≤ wc) : Spec prog 71 [ptr m, .slice (some ⟨bs, 0, none⟩) ws.length wc].toArray [RMemA m M, .row bs (w32s ws ++ jw) 23] (fun x : Option Nat => (x.isSome ↔ Db.loadOk M ws)) (fun x => .tuple #[optr x, i64 (if x.isSome then 0 else 110)]) (fun x => [RLoadP m M ws x, .row bs (w32s ws ++ jw) 23]) := by
 refine Spec.body func71 rfl ntmps71 rfl (fun σ R => ?_)
 refine .seq (.region (.v (.assign rfl) (.v (.assign rfl) (.nil (TQ.then (.seq (.seq (.region (.v (.move rfl) (.v (.eqlNil underlying54 rfl rfl) ?_))))))))))
 refine .v (.move rfl) ?_
 refine' TL.orG (k := 8) (dj := 12) (d := 20) rfl ?_ ?_ ?_
 rotate_left
 ·
  intro g20 hd
  first | replace g20 := of_decide_eq_false g20 | skip
  refine .want rfl rfl (.v (.move rfl) (.want rfl rfl (.v (.len underlying31 rfl) ?_)))
  refine .want rfl rfl (.v (.move rfl) (.want rfl rfl (.call call52 (S_wardenref07_Memory_Secure) rfl .pk rfl (fun x16 hx16 => ?_))))
  refine .want rfl rfl (.v (.mul64 rfl rfl (by omega)) ?_)
  refine .want rfl rfl (.v (.add64 rfl rfl (by omega)) ?_)
  refine .want rfl rfl (.v (.neq rfl rfl) (.v (.pick_false rfl rfl) (.nil ?_)))
  exact .keepE (Sub.cons rfl (Sub.push rfl (Sub.push rfl (Sub.push rfl (Sub.push rfl (Sub.push rfl (Sub.push rfl (Sub.push rfl (Sub.push rfl (Sub.pushSame hd Sub.rfl')))))))))) .en
 ·
  intro g20 hd
  refine .skip rfl rfl rfl (.skip rfl rfl rfl (.skip rfl rfl rfl (.skip rfl rfl rfl (.skip rfl rfl rfl (.skip rfl rfl rfl (.skip rfl rfl rfl (.v (.pick_true rfl rfl) (.nil ?_))))))))
  exact .keepE (Sub.cons rfl (Sub.push rfl (Sub.push rfl (Sub.push rfl (Sub.push rfl (Sub.push rfl (Sub.push rfl (Sub.push rfl (Sub.push rfl (Sub.pushSame hd Sub.rfl')))))))))) .en
 first | refine .boolOr ?_ | skip
 refine .v (.move rfl) ?_
 refine' TL.orG (k := 5) (dj := 21) (d := 26) rfl ?_ ?_ ?_
 rotate_left
 ·
  intro g26 hd
  first | replace g26 := of_decide_eq_false g26 | skip
  refine .want rfl rfl (.v (.move rfl) (.want rfl rfl (.v (.ixSlice1 underlying31 sizeOf23 rfl rfl (by omega)) ?_)))
  refine .want rfl rfl (.v (.load isAgg23 rfl .tk (words_at (i := 0) (by omega))) ?_)
  refine .want rfl rfl (.v (.gtr32 (b := 64#32) rfl rfl) ?_)
  refine .v (.pick_false rfl rfl) (.nil ?_)
  exact .keep (Sub.cons rfl (Sub.push rfl (Sub.push rfl (Sub.push rfl (Sub.push rfl (Sub.push rfl (Sub.pushSame hd Sub.rfl')))))))
 ·
  intro g26 hd
  refine .skip rfl rfl rfl (.skip rfl rfl rfl (.skip rfl rfl rfl (.skip rfl rfl rfl (.v (.pick_true rfl rfl) (.nil ?_)))))
  exact .keep (Sub.cons rfl (Sub.push rfl (Sub.push rfl (Sub.push rfl (Sub.push rfl (Sub.push rfl (Sub.pushSame hd Sub.rfl')))))))
 first | refine .boolOr ?_ | skip
 refine .nil (TQ.then ?_)
 first | refine .cond_dec rfl (fun h1 => ?_) (fun h1 => ?_) | refine .cond rfl (fun h1 => ?_) (fun h1 => ?_)
 ·
  simp at h1
  refine .seq (.region (.v (.assign rfl) (.v (.assign rfl) (.nil (TQ.then (.ret (.then_ret ?_)))))))
  have hno : ¬ Db.loadOk M ws := fun c => by have := c.1; have := c.2.1; omega
  exact .ret results71 (.tmp rfl (.tmp rfl .nil)) none rfl (by simp [hno]) .en
 ·
  simp at h1
  obtain ⟨hlen, h64⟩ : ws.length = 1 + 2 * M.sec.length ∧ (wAt ws 0).toNat ≤ 64 := by omega
  obtain ⟨n, hn⟩ : ∃ n, M.sec.length = n := ⟨_, rfl⟩
  refine .skip (TQ.then (.seq (.region (.v (.move rfl) (.v (.move rfl) (.v (.ixSlice1 underlying31 sizeOf23 rfl rfl (by omega)) ?_))))))
  refine .v (.load isAgg23 rfl .tk (words_at (i := 0) (by omega))) ?_
  refine .v (.conv_32_64 underlying23 underlying3 rfl) ?_
  refine .v (.build (cs := [_, _, _]) zeroValue76 pl_76_WRef12 rfl rfl) ?_
  refine .box (vs := [_, _, _]) rfl rfl rfl (fun b33 => ?_)
  refine .v (.assign rfl) (.nil (TQ.then (.seq (.seq (.ent (GSl.emp (E := 104) (k := 5)) ?_)))))
  refine .region (.v (.assign rfl) (.nil (TQ.then (.block (.loop (X := {p : Nat // p ≤ n ∧ ∀ q, q < p → entryOk n (decAt ws q)} × Value) (s0 := [(0, _), (1, _), (6, _)]) (fun x => [(7, i64 x.1.1)]) (fun x => [.row b33 [ptr m, x.2, i64 (wAt ws 0).toNat] 76, GSl 104 5 x.2 x.1.1 (ecells ((List.range x.1.1).map fun q => (decAt ws q).1))]) (fun x => n - x.1.1) (⟨0, by omega, fun q hq => by omega⟩, .slice none 0 0) .st .pk (fun x => ?_))))))
  refine .seq (.seq (.region (.v (.move rfl) (.v (.move rfl) (.call call52 (S_wardenref07_Memory_Secure) rfl .pk rfl (fun x36 hx36 => ?_))))))
  refine .v (.lss rfl rfl) (.nil (TQ.then ?_))
  first | refine .cond_dec rfl (fun h2 => ?_) (fun h2 => ?_) | refine .cond rfl (fun h2 => ?_) (fun h2 => ?_)
  ·
   obtain ⟨⟨p, hp, hq⟩, v⟩ := x
   dsimp only at h2 ⊢
   have hpn : p < n := by omega
   refine .skip (TQ.then (.seq (.block (.seq (.draw (H := [.row bs _ _]) (.q 0 (.q 1 (.q 2 (.q 3 (.q 4 (.q 5 (.q 6 (.q 7 (.q 8 (.q 9 (.q 10 (.q 11 (.q 12 (.b 13 (.q 14 (.q 15 (.q 16 (.e 17 (.e 18 (.q 19 .done)))))) 17 (.e 13 (.q 14 (.q 15 (.q 16 (.e 18 (.q 19 .done)))))))))))))))))))) (by kernel_rfl) .pk (by kernel_rfl) (by kernel_rfl) (by kernel_rfl) ?_)))))
   refine .v rfl (.move rfl) (.v rfl (.move rfl) (.v rfl (.mul64 rfl rfl (by omega)) ?_))
   refine .v rfl (.add64 rfl rfl (by omega)) ?_
   refine .v rfl (.ixSlice1 underlying31 sizeOf23 rfl rfl (by omega)) ?_
   refine .v rfl (.load isAgg23 rfl .tk (by rw [show 0 + (1 + 2 * (p : Int)).toNat = 1 + 2 * p by omega]; exact words_at (i := 1 + 2 * p) (by omega))) ?_
   refine .v rfl (.move rfl) (.v rfl (.move rfl) (.v rfl (.mul64 rfl rfl (by omega)) ?_))
   refine .v rfl (.add64 rfl rfl (by omega)) ?_
   refine .v rfl (.ixSlice1 underlying31 sizeOf23 rfl rfl (by omega)) ?_
   refine .v rfl (.load isAgg23 rfl .tk (by rw [show 0 + (2 + 2 * (p : Int)).toNat = 2 + 2 * p by omega]; exact words_at (i := 2 + 2 * p) (by omega))) ?_
   refine .v rfl (.buildArr (cs := [_, _]) zeroValue155 underlying155 sizeOf23 rfl rfl) ?_
   refine .both rfl rfl (fun fu_ li_ hk_ hs_ hl_ => ?_) (fun fu_ li_ hk_ hs_ hl_ => ?_)
   ·
    refine .call call98 (S_wardenref11_Decode (a := wAt ws (1 + 2 * p)) (b := wAt ws (2 + 2 * p))) rfl .pk rfl (fun x54 hx54 => ?_)
    refine .nil (TS.back hk_ hs_ hl_ .pk ?_)
    refine .v rfl (.move rfl) (.v rfl (.extract rfl rfl) (.v rfl (.extract rfl rfl) (.eff rfl (fun fu_ li_ hk_ hs_ hl_ => ?_))))
    refine .alloc zeroValue104 rfl rfl (fun b8 => ?_)
    refine .nil (TS.back hk_ hs_ hl_ .pk ?_)
    refine .eff rfl (fun fu_ li_ hk_ hs_ hl_ => ?_)
    refine .storeAll (us := [_, _, _, _, _]) sizeOf104 rfl rfl rfl rfl .up rfl ?_
    refine .nil (TS.back hk_ hs_ hl_ .pk ?_)
    refine .v rfl (.assign rfl) (.done (TQ.then (.seq (.seq (.draw (H := [.row b8 _ _]) (.q 0 (.q 1 (.q 2 (.q 3 (.q 4 (.q 5 (.e 6 (.q 7 (.q 8 .done))))))))) (by kernel_rfl) .pk (by kernel_rfl) (by kernel_rfl) (by kernel_rfl) ?_)))))
    refine .v rfl (.move rfl) (.v rfl (.neq rfl rfl) (.v rfl (.move rfl) ?_))
    first | refine .part_dec (dj := 59) rfl (fun h3 => ?_) (fun h3 => ?_) | refine .part (dj := 59) rfl (fun h3 => ?_) (fun h3 => ?_)
    ·
     refine .skip rfl rfl rfl rfl (.skip rfl rfl rfl rfl (.skip rfl rfl rfl rfl (.eff rfl (fun fu_ li_ hk_ hs_ hl_ => ?_))))
     refine .skip rfl rfl rfl (.nil (TS.back hk_ hs_ hl_ .pk ?_))
     refine .skip rfl rfl rfl rfl (.v rfl (.pick_true rfl rfl) (.done (TQ.then (.cond_true rfl (.seq (.region (.v (.assign rfl) (.v (.assign rfl) (.nil (TQ.then (.ret (.then_ret (.blk_ret (.then_ret (.then_ret (.blk_ret (.then_ret ?_)))))))))))))))))
     have hno : ¬ Db.loadOk M ws := fun c => by have := c.2.2 p (by omega); rw [hn] at this; exact h3 this.1
     exact .ret results71 (.tmp rfl (.tmp rfl .nil)) none rfl (by simp [hno]) .en
    ·
     refine .want rfl rfl rfl (.field fo_104_1_WRef12 rfl) rfl ?_
     refine .want rfl rfl rfl (.load isAgg3 rfl .tk (by rfl)) rfl ?_
     refine .want rfl rfl rfl (.move rfl) rfl ?_
     refine .eff rfl (fun fu_ li_ hk_ hs_ hl_ => ?_)
     refine .want rfl rfl (.call call52 (S_wardenref07_Memory_Secure) rfl .pk rfl (fun x63 hx63 => ?_))
     refine .nil (TS.back hk_ hs_ hl_ .pk ?_)
     refine .want rfl rfl rfl (.geq rfl rfl) rfl ?_
     refine .v rfl (.pick_false rfl rfl) (.done (TQ.then ?_))
     first | refine .cond_dec rfl (fun h4 => ?_) (fun h4 => ?_) | refine .cond rfl (fun h4 => ?_) (fun h4 => ?_)
     ·
      refine .seq (.region (.v (.assign rfl) (.v (.assign rfl) (.nil (TQ.then (.ret (.then_ret (.blk_ret (.then_ret (.then_ret (.blk_ret (.then_ret ?_))))))))))))
      have hno : ¬ Db.loadOk M ws := fun c => by have := (c.2.2 p (by omega)).2.2; unfold decAt at this; omega
      exact .ret results71 (.tmp rfl (.tmp rfl .nil)) none rfl (by simp [hno]) .en
     ·
      refine .skip (TQ.then ?_)
      obtain ⟨E, hE⟩ : ∃ E, Ety.dec (wAt ws (1 + 2 * p)) (wAt ws (2 + 2 * p)) = E := ⟨_, rfl⟩
      have hpos := own_pos (a := wAt ws (1 + 2 * p)) (b := wAt ws (2 + 2 * p))
      rw [hE] at h3 h4 hpos ⊢
      have hE2 : decAt ws p = E := hE
      refine .draw (H := [.row b8 _ _]) (.q 0 (.q 1 (.q 2 (.q 3 (.q 5 (.b 4 (.e 6 (.e 7 (.q 8 (.q 9 (.e 10 .done))))) 6 (.e 4 (.e 7 (.q 8 (.q 9 (.e 10 .done))))))))))) (by kernel_rfl) .pk (by kernel_rfl) (by kernel_rfl) (by kernel_rfl) ?_
      refine .v rfl (.move rfl) (.v rfl (.move rfl) (.v rfl (.nilCheck rfl) (.v rfl (.field fo_76_1_WRef12 rfl) (.v rfl (.loadAgg (vs := [_, _, _, _, _]) isAgg104 sizeOf104 rfl .tk (by rfl) (by rfl)) ?_))))
      refine .both rfl rfl (fun fu_ li_ hk_ hs_ hl_ => ?_) (fun fu_ li_ hk_ hs_ hl_ => ?_)
      ·
       refine .v (.load isAgg74 rfl .tk (by rfl)) ?_
       refine .nil (TS.back hk_ hs_ hl_ .pk ?_)
       refine .eff rfl (fun fu_ li_ hk_ hs_ hl_ => ?_)
       refine .buildSlice1 (zs := [.int .i64 0, .int .i64 0, .int .i64 0, .int .i64 0, .bool false]) (us := [_, _, _, _, _]) underlying74 sizeOf104 zeroValue104 rfl rfl rfl rfl rfl (by kernel_rfl) rfl (fun b72 => ?_)
       refine .nil (TS.back hk_ hs_ hl_ .pk ?_)
       refine .eff rfl (fun fu_ li_ hk_ hs_ hl_ => ?_)
       refine .append (k := 5) (us := E.1.cells) underlying74 typeInfo104 rfl rfl rfl rfl (by decide) rfl rfl .tk .tk (by rfl) (by rfl) rfl (by simp only [t104]; omega) rfl (fun v73 hv73 => ?_)
       refine .nil (TS.back hk_ hs_ hl_ .pk ?_)
       refine .v rfl (.nilCheck rfl) (.v rfl (.field fo_76_1_WRef12 rfl) (.eff rfl (fun fu_ li_ hk_ hs_ hl_ => ?_)))
       refine .store sizeOf74 rfl rfl hv73 .up (by rfl) ?_
       refine .nil (TS.back hk_ hs_ hl_ .pk ?_)
       refine .done (.blk_normal (TQ.then (.region (.v (.move rfl) (.v (.add64 rfl rfl (by omega)) ?_)))))
       refine .v (.assign rfl) (.nil ?_)
       rw [← hE2, loadE_take]
       exact .next (⟨p + 1, by omega, fun q hq2 => by
        by_cases hqp : q < p
        ·
         exact hq q hqp
        ·
         obtain rfl : q = p := by omega
         rw [hE2]; exact ⟨Classical.byContradiction fun c => h3 c, hpos, by omega⟩⟩, v73) (by dsimp only; omega) .st .en
      ·
       refine .buildSlice1 (zs := [.int .i64 0, .int .i64 0, .int .i64 0, .int .i64 0, .bool false]) (us := [_, _, _, _, _]) underlying74 sizeOf104 zeroValue104 rfl rfl rfl rfl rfl (by kernel_rfl) rfl (fun b72 => ?_)
       refine .nil (TS.back hk_ hs_ hl_ .pk ?_)
       refine .eff rfl (fun fu_ li_ hk_ hs_ hl_ => ?_)
       refine .v (.load isAgg74 rfl .tk (by rfl)) ?_
       refine .nil (TS.back hk_ hs_ hl_ .pk ?_)
       refine .eff rfl (fun fu_ li_ hk_ hs_ hl_ => ?_)
       refine .append (k := 5) (us := E.1.cells) underlying74 typeInfo104 rfl rfl rfl rfl (by decide) rfl rfl .tk .tk (by rfl) (by rfl) rfl (by simp only [t104]; omega) rfl (fun v73 hv73 => ?_)
       refine .nil (TS.back hk_ hs_ hl_ .pk ?_)
       refine .v rfl (.nilCheck rfl) (.v rfl (.field fo_76_1_WRef12 rfl) (.eff rfl (fun fu_ li_ hk_ hs_ hl_ => ?_)))
       refine .store sizeOf74 rfl rfl hv73 .up (by rfl) ?_
       refine .nil (TS.back hk_ hs_ hl_ .pk ?_)
       refine .done (.blk_normal (TQ.then (.region (.v (.move rfl) (.v (.add64 rfl rfl (by omega)) ?_)))))
       refine .v (.assign rfl) (.nil ?_)
       rw [← hE2, loadE_take]
       exact .next (⟨p + 1, by omega, fun q hq2 => by
        by_cases hqp : q < p
        ·
         exact hq q hqp
        ·
         obtain rfl : q = p := by omega
         rw [hE2]; exact ⟨Classical.byContradiction fun c => h3 c, hpos, by omega⟩⟩, v73) (by dsimp only; omega) .st .en
   ·
    refine .alloc zeroValue104 rfl rfl (fun b8 => ?_)
    refine .nil (TS.back hk_ hs_ hl_ .pk ?_)
    refine .eff rfl (fun fu_ li_ hk_ hs_ hl_ => ?_)
    refine .call call98 (S_wardenref11_Decode (a := wAt ws (1 + 2 * p)) (b := wAt ws (2 + 2 * p))) rfl .pk rfl (fun x54 hx54 => ?_)
    refine .nil (TS.back hk_ hs_ hl_ .pk ?_)
    refine .v rfl (.move rfl) (.v rfl (.extract rfl rfl) (.v rfl (.extract rfl rfl) (.eff rfl (fun fu_ li_ hk_ hs_ hl_ => ?_))))
    refine .storeAll (us := [_, _, _, _, _]) sizeOf104 rfl rfl rfl rfl .up rfl ?_
    refine .nil (TS.back hk_ hs_ hl_ .pk ?_)
    refine .v rfl (.assign rfl) (.done (TQ.then (.seq (.seq (.draw (H := [.row b8 _ _]) (.q 0 (.q 1 (.q 2 (.q 3 (.q 4 (.q 5 (.e 6 (.q 7 (.q 8 .done))))))))) (by kernel_rfl) .pk (by kernel_rfl) (by kernel_rfl) (by kernel_rfl) ?_)))))
    refine .v rfl (.move rfl) (.v rfl (.neq rfl rfl) (.v rfl (.move rfl) ?_))
    first | refine .part_dec (dj := 59) rfl (fun h3 => ?_) (fun h3 => ?_) | refine .part (dj := 59) rfl (fun h3 => ?_) (fun h3 => ?_)
    ·
     refine .skip rfl rfl rfl rfl (.skip rfl rfl rfl rfl (.skip rfl rfl rfl rfl (.eff rfl (fun fu_ li_ hk_ hs_ hl_ => ?_))))
     refine .skip rfl rfl rfl (.nil (TS.back hk_ hs_ hl_ .pk ?_))
     refine .skip rfl rfl rfl rfl (.v rfl (.pick_true rfl rfl) (.done (TQ.then (.cond_true rfl (.seq (.region (.v (.assign rfl) (.v (.assign rfl) (.nil (TQ.then (.ret (.then_ret (.blk_ret (.then_ret (.then_ret (.blk_ret (.then_ret ?_)))))))))))))))))
     have hno : ¬ Db.loadOk M ws := fun c => by have := c.2.2 p (by omega); rw [hn] at this; exact h3 this.1
     exact .ret results71 (.tmp rfl (.tmp rfl .nil)) none rfl (by simp [hno]) .en
    ·
     refine .want rfl rfl rfl (.field fo_104_1_WRef12 rfl) rfl ?_
     refine .want rfl rfl rfl (.load isAgg3 rfl .tk (by rfl)) rfl ?_
     refine .want rfl rfl rfl (.move rfl) rfl ?_
     refine .eff rfl (fun fu_ li_ hk_ hs_ hl_ => ?_)
     refine .want rfl rfl (.call call52 (S_wardenref07_Memory_Secure) rfl .pk rfl (fun x63 hx63 => ?_))
     refine .nil (TS.back hk_ hs_ hl_ .pk ?_)
     refine .want rfl rfl rfl (.geq rfl rfl) rfl ?_
     refine .v rfl (.pick_false rfl rfl) (.done (TQ.then ?_))
     first | refine .cond_dec rfl (fun h4 => ?_) (fun h4 => ?_) | refine .cond rfl (fun h4 => ?_) (fun h4 => ?_)
     ·
      refine .seq (.region (.v (.assign rfl) (.v (.assign rfl) (.nil (TQ.then (.ret (.then_ret (.blk_ret (.then_ret (.then_ret (.blk_ret (.then_ret ?_))))))))))))
      have hno : ¬ Db.loadOk M ws := fun c => by have := (c.2.2 p (by omega)).2.2; unfold decAt at this; omega
      exact .ret results71 (.tmp rfl (.tmp rfl .nil)) none rfl (by simp [hno]) .en
     ·
      refine .skip (TQ.then ?_)
      obtain ⟨E, hE⟩ : ∃ E, Ety.dec (wAt ws (1 + 2 * p)) (wAt ws (2 + 2 * p)) = E := ⟨_, rfl⟩
      have hpos := own_pos (a := wAt ws (1 + 2 * p)) (b := wAt ws (2 + 2 * p))
      rw [hE] at h3 h4 hpos ⊢
      have hE2 : decAt ws p = E := hE
      refine .draw (H := [.row b8 _ _]) (.q 0 (.q 1 (.q 2 (.q 3 (.q 5 (.b 4 (.e 6 (.e 7 (.q 8 (.q 9 (.e 10 .done))))) 6 (.e 4 (.e 7 (.q 8 (.q 9 (.e 10 .done))))))))))) (by kernel_rfl) .pk (by kernel_rfl) (by kernel_rfl) (by kernel_rfl) ?_
      refine .v rfl (.move rfl) (.v rfl (.move rfl) (.v rfl (.nilCheck rfl) (.v rfl (.field fo_76_1_WRef12 rfl) (.v rfl (.loadAgg (vs := [_, _, _, _, _]) isAgg104 sizeOf104 rfl .tk (by rfl) (by rfl)) ?_))))
      refine .both rfl rfl (fun fu_ li_ hk_ hs_ hl_ => ?_) (fun fu_ li_ hk_ hs_ hl_ => ?_)
      ·
       refine .v (.load isAgg74 rfl .tk (by rfl)) ?_
       refine .nil (TS.back hk_ hs_ hl_ .pk ?_)
       refine .eff rfl (fun fu_ li_ hk_ hs_ hl_ => ?_)
       refine .buildSlice1 (zs := [.int .i64 0, .int .i64 0, .int .i64 0, .int .i64 0, .bool false]) (us := [_, _, _, _, _]) underlying74 sizeOf104 zeroValue104 rfl rfl rfl rfl rfl (by kernel_rfl) rfl (fun b72 => ?_)
       refine .nil (TS.back hk_ hs_ hl_ .pk ?_)
       refine .eff rfl (fun fu_ li_ hk_ hs_ hl_ => ?_)
       refine .append (k := 5) (us := E.1.cells) underlying74 typeInfo104 rfl rfl rfl rfl (by decide) rfl rfl .tk .tk (by rfl) (by rfl) rfl (by simp only [t104]; omega) rfl (fun v73 hv73 => ?_)
       refine .nil (TS.back hk_ hs_ hl_ .pk ?_)
       refine .v rfl (.nilCheck rfl) (.v rfl (.field fo_76_1_WRef12 rfl) (.eff rfl (fun fu_ li_ hk_ hs_ hl_ => ?_)))
       refine .store sizeOf74 rfl rfl hv73 .up (by rfl) ?_
       refine .nil (TS.back hk_ hs_ hl_ .pk ?_)
       refine .done (.blk_normal (TQ.then (.region (.v (.move rfl) (.v (.add64 rfl rfl (by omega)) ?_)))))
       refine .v (.assign rfl) (.nil ?_)
       rw [← hE2, loadE_take]
       exact .next (⟨p + 1, by omega, fun q hq2 => by
        by_cases hqp : q < p
        ·
         exact hq q hqp
        ·
         obtain rfl : q = p := by omega
         rw [hE2]; exact ⟨Classical.byContradiction fun c => h3 c, hpos, by omega⟩⟩, v73) (by dsimp only; omega) .st .en
      ·
       refine .buildSlice1 (zs := [.int .i64 0, .int .i64 0, .int .i64 0, .int .i64 0, .bool false]) (us := [_, _, _, _, _]) underlying74 sizeOf104 zeroValue104 rfl rfl rfl rfl rfl (by kernel_rfl) rfl (fun b72 => ?_)
       refine .nil (TS.back hk_ hs_ hl_ .pk ?_)
       refine .eff rfl (fun fu_ li_ hk_ hs_ hl_ => ?_)
       refine .v (.load isAgg74 rfl .tk (by rfl)) ?_
       refine .nil (TS.back hk_ hs_ hl_ .pk ?_)
       refine .eff rfl (fun fu_ li_ hk_ hs_ hl_ => ?_)
       refine .append (k := 5) (us := E.1.cells) underlying74 typeInfo104 rfl rfl rfl rfl (by decide) rfl rfl .tk .tk (by rfl) (by rfl) rfl (by simp only [t104]; omega) rfl (fun v73 hv73 => ?_)
       refine .nil (TS.back hk_ hs_ hl_ .pk ?_)
       refine .v rfl (.nilCheck rfl) (.v rfl (.field fo_76_1_WRef12 rfl) (.eff rfl (fun fu_ li_ hk_ hs_ hl_ => ?_)))
       refine .store sizeOf74 rfl rfl hv73 .up (by rfl) ?_
       refine .nil (TS.back hk_ hs_ hl_ .pk ?_)
       refine .done (.blk_normal (TQ.then (.region (.v (.move rfl) (.v (.add64 rfl rfl (by omega)) ?_)))))
       refine .v (.assign rfl) (.nil ?_)
       rw [← hE2, loadE_take]
       exact .next (⟨p + 1, by omega, fun q hq2 => by
        by_cases hqp : q < p
        ·
         exact hq q hqp
        ·
         obtain rfl : q = p := by omega
         rw [hE2]; exact ⟨Classical.byContradiction fun c => h3 c, hpos, by omega⟩⟩, v73) (by dsimp only; omega) .st .en
  ·
   refine .exit (.then_exit (.then_exit (.blk_hit (TQ.then (.seq ?_)))))
   obtain ⟨⟨p, hp, hq⟩, v⟩ := x
   obtain rfl : p = n := by dsimp only at h2; omega
   dsimp only
   refine .ent (Ent.trans (Ent.perm (M := [GSl _ _ _ _ _]) .pk) GSl.openE) ?_
   refine .ex .here (fun y => ?_)
   rcases y with _ | ⟨g, gc, jj⟩
   ·
    refine .fact .here (fun hy => ?_)
    exfalso; omega
   refine .allL .here ?_
   refine .fact .here (fun hy => ?_)
   obtain ⟨rfl, hy1, hy2, hy3, hy4⟩ := hy
   refine .region (.v (.move rfl) (.v (.assign rfl) (.v (.assign rfl) (.nil (TQ.then (.ret ?_))))))
   have hok : Db.loadOk M ws := ⟨hlen, h64, by rw [hn]; exact hq⟩
   refine .ret results71 (.tmp rfl (.tmp rfl .nil)) (some b33) rfl (by simp [hok]) ?_
   subst hn
   exact RDbA.fin' (D := Db.loadE M ws) (Db.load_ok hok hM) (by simp [Db.loadE]) hy2 .pk
end Go.Wd
