/- PROVED HERE: contracts of functions of the program, walked: each returns what the plain model says, for all items that its precondition names. No condition beyond each theorem's own. -/
import Derived.Test.YtkpomphooljgmaaGreatDoorProg
import Derived.Test.YtkpomphooljgmaaGreatDoorModel
import Derived.Test.YtkpomphooljgmaaGreatDoorPk
import Derived.Test.YtkpomphooljgmaaGreatDoorMDb
import Derived.Test.YtkpomphooljgmaaGreatDoorWMem
import Derived.Test.YtkpomphooljgmaaGreatDoorWEntry
import Derived.Test.YtkpomphooljgmaaGreatDoorBase4
namespace Go.Wd
open Go Go.Proofs Go.Proofs.Tryz
abbrev DbH (d m bw n : Nat) (births : Int) (es : List Ety) : List Assn :=
 [.row d [ptr m, i64 births, .slice (some ⟨bw, 0, none⟩) (2 * n) (2 * n)] 98, .row bw (w32s (encs es)) 23]
def DbA (d m : Nat) (D : Db) : Assn := .ex fun bw : Nat => .all (.fact D.ok :: (DbH d m bw D.ents.length D.births D.ents ++ [MemA m D.mem]))
theorem DbA.open {d m : Nat} {D : Db} {f : FuncId} {args : Array Value} {pre : List Assn} {X : Type} {q : X → Prop} {ret : X → Value} {post : X → List Assn}
  (h : ∀ bw n, D.ents.length = n → D.ok → Spec prog f args (DbH d m bw n D.births D.ents ++ [MemA m D.mem] ++ pre) q ret post) : Spec prog f args (DbA d m D :: pre) q ret post :=
 Spec.exL fun bw => Spec.allL (Spec.factL fun hl => h bw _ rfl hl)
theorem DbA.fin' {L rest : List Assn} {d m bw n : Nat} {D : Db} (hD : D.ok) (hn : D.ents.length = n) (hp : Pick L (DbH d m bw n D.births D.ents ++ [MemA m D.mem]) rest) : Ent L (DbA d m D :: rest) :=
by
 subst hn
 exact Ent.trans (Ent.perm hp) (Ent.trans (Ent.factR hD) (Ent.trans (Ent.allR (M := .fact D.ok :: (DbH d m bw D.ents.length D.births D.ents ++ [MemA m D.mem])) (L := rest))
  (Ent.exR (A := fun bw : Nat => .all (.fact D.ok :: (DbH d m bw D.ents.length D.births D.ents ++ [MemA m D.mem]))) bw)))
theorem DbA.fin {L rest : List Assn} {d m bw n : Nat} {D : Db} (hD : D.ok) (hn : D.ents.length = n) (hp : Pick L (DbH d m bw n D.births D.ents ++ [MemA m D.mem]) rest) : Ent L [DbA d m D] :=
 Ent.trans (DbA.fin' hD hn hp) (Ent.pick (.cons .here .nil))
theorem DbA.finE {α : Type} {L rest : List Assn} {d m bw n : Nat} {D : Db} {a : α} {r : α × Db} (e : r = (a, D)) (hD : D.ok) (hn : D.ents.length = n) (hp : Pick L (DbH d m bw n D.births D.ents ++ [MemA m D.mem]) rest) : Ent L [DbA d m r.2] := by
 subst e; exact DbA.fin hD hn hp

theorem fo_98_2_WDb : FieldOff prog 98 2 2 := FieldOff.of 31 1 underlying98 rfl sizeOf31 rfl
set_option maxHeartbeats 400000 in
theorem S_pagedb_DB_Pages {d m bw n : Nat} {births : Int} (hl : n ≤ 64) : Spec prog 91 [ptr d].toArray [.row d [ptr m, i64 births, .slice (some ⟨bw, 0, none⟩) (2 * n) (2 * n)] 98] (fun _ : Unit => True) (fun _ => i64 n) (fun _ => [.row d [ptr m, i64 births, .slice (some ⟨bw, 0, none⟩) (2 * n) (2 * n)] 98]) := by
 refine Spec.body func91 rfl ntmps91 rfl (fun σ R => ?_)
 refine .seq (.region (.v (.assign rfl) (.nil (TQ.then (.seq (.region (.v (.move rfl) (.v (.nilCheck rfl) (.v (.field fo_98_2_WDb rfl) (.v (.load isAgg31 rfl .tk (by rfl)) ?_))))))))))
 refine .v (.len underlying31 rfl) ?_
 refine .v (.quo64 rfl rfl (by omega)) ?_
 refine .v (.assign rfl) (.nil (TQ.then (.ret ?_)))
 exact .ret results91 (.tmp rfl .nil) () (by show i64 _ = i64 _; congr 1; omega) trivial .en

set_option maxHeartbeats 400000 in
theorem S_pagedb_DB_has {d m bw n : Nat} {births : Int} {es : List Ety} (hn : es.length = n) (hl : n ≤ 64) {p : Int} : Spec prog 55 [ptr d, i64 p].toArray [.row d [ptr m, i64 births, .slice (some ⟨bw, 0, none⟩) (2 * n) (2 * n)] 98] (fun _ : Unit => True) (fun _ => .bool (decide (hasE es p))) (fun _ => [.row d [ptr m, i64 births, .slice (some ⟨bw, 0, none⟩) (2 * n) (2 * n)] 98]) := by
 subst hn
 refine Spec.body func55 rfl ntmps55 rfl (fun σ R => ?_)
 refine .seq (.region (.v (.assign rfl) (.nil (TQ.then (.seq (.region (.v (.move rfl) (.v (.geq rfl rfl) (.v (.move rfl) ?_)))))))))
 refine' TL.andG (k := 5) (dj := 7) (d := 12) rfl ?_ ?_ ?_
 rotate_left
 ·
  intro g12 hd
  first | replace g12 := of_decide_eq_true g12 | skip
  refine .want rfl rfl (.v (.move rfl) (.want rfl rfl (.v (.move rfl) (.want rfl rfl (.call call91 (S_pagedb_DB_Pages hl) rfl .pk rfl (fun x10 hx10 => ?_))))))
  refine .want rfl rfl (.v (.lss rfl rfl) (.v (.pick_true rfl rfl) (.nil ?_)))
  exact .keepE (Sub.cons rfl (Sub.push rfl (Sub.push rfl (Sub.push rfl (Sub.push rfl (Sub.push rfl (Sub.pushSame hd Sub.rfl'))))))) .en
 ·
  intro g12 hd
  refine .skip rfl rfl rfl (.skip rfl rfl rfl (.skip rfl rfl rfl (.skip rfl rfl rfl (.v (.pick_false rfl rfl) (.nil ?_)))))
  exact .keepE (Sub.cons rfl (Sub.push rfl (Sub.push rfl (Sub.push rfl (Sub.push rfl (Sub.push rfl (Sub.pushSame hd Sub.rfl'))))))) .en
 first | refine .boolAnd ?_ | skip
 refine .v (.assign rfl) (.nil (TQ.then (.ret ?_)))
 exact .ret results55 (.tmp rfl .nil) () (by first | rfl | simp [tup, *]) trivial .en

set_option maxHeartbeats 400000 in
theorem S_pagedb_DB_at {d m bw n : Nat} {births : Int} {es : List Ety} (hn : es.length = n) (hl : n ≤ 64) (ho : okE es) {p : Int} (hp : hasE es p) : Spec prog 56 [ptr d, i64 p].toArray [.row d [ptr m, i64 births, .slice (some ⟨bw, 0, none⟩) (2 * n) (2 * n)] 98, .row bw (w32s (encs es)) 23] (fun _ : Unit => True) (fun _ => (atE es p).val) (fun _ => [.row d [ptr m, i64 births, .slice (some ⟨bw, 0, none⟩) (2 * n) (2 * n)] 98, .row bw (w32s (encs es)) 23]) := by
 refine Spec.body func56 rfl ntmps56 rfl (fun σ R => ?_)
 obtain ⟨hp0, hp1⟩ := id hp
 have he := ho.ok hp
 refine .seq (.region (.alloc zeroValue107 rfl rfl (fun b4 => ?_)))
 refine .nil (TQ.then (.seq (.region (.v (.move rfl) (.v (.nilCheck rfl) (.v (.field fo_98_2_WDb rfl) (.v (.load isAgg31 rfl .tk (by rfl)) ?_)))))))
 refine .v (.move rfl) (.v (.mul64 rfl rfl (by omega)) ?_)
 refine .v (.sliceLo underlying31 sizeOf23 rfl rfl (by omega) (by omega)) ?_
 refine .v (.toArrPtr underlying155 rfl (by omega)) ?_
 refine .v (.loadAgg (vs := [_, _]) isAgg155 sizeOf155 rfl .tk (by rw [show 0 + (2 * p).toNat * 1 = 2 * p.toNat by omega]; exact encs_get (atE_get hp)) rfl) ?_
 refine .call call92 (S_entry_Decode (a := (atE es p).e0) (b := (atE es p).e1)) rfl .pk rfl (fun x17 hx17 => ?_)
 refine .v (.move rfl) (.v (.extract rfl rfl) (.v (.extract rfl rfl) (.alloc zeroValue107 rfl rfl (fun b5 => ?_))))
 refine .storeAll (us := [_, _, _, _, _]) sizeOf107 rfl rfl rfl rfl .up rfl ?_
 refine .v (.assign rfl) (.nil (TQ.then (.seq ?_)))
 have hd : Ety.dec (atE es p).e0 (atE es p).e1 = (atE es p, 0) := by rw [show (atE es p).e0 = (atE es p).w0 from if_pos he, show (atE es p).e1 = (atE es p).w1 from if_pos he]; exact Ety.dec_enc he
 refine .region (.v (.loadAgg (vs := [_, _, _, _, _]) isAgg107 sizeOf107 rfl .tk (by rfl) (by rfl)) ?_)
 refine .storeAll (us := [_, _, _, _, _]) sizeOf107 rfl rfl rfl rfl .up rfl ?_
 refine .nil (TQ.then (.ret ?_))
 exact .ret results56 (.agg isAgg107 sizeOf107 rfl .tk (by rfl) (by rfl) .nil) () (by rw [hd]; rfl) trivial .en

set_option maxHeartbeats 400000 in
theorem S_pagedb_DB_set {d m bw n : Nat} {births : Int} {es : List Ety} (hn : es.length = n) (hl : n ≤ 64) {p : Int} (hp : hasE es p) {e : Ety} : Spec prog 57 [ptr d, i64 p, e.val].toArray [.row d [ptr m, i64 births, .slice (some ⟨bw, 0, none⟩) (2 * n) (2 * n)] 98, .row bw (w32s (encs es)) 23] (fun _ : Unit => True) (fun _ => .tuple #[]) (fun _ => [.row d [ptr m, i64 births, .slice (some ⟨bw, 0, none⟩) (2 * n) (2 * n)] 98, .row bw (w32s (encs (setE es p e))) 23]) := by
 refine Spec.body func57 rfl ntmps57 rfl (fun σ R => ?_)
 obtain ⟨hp0, hp1⟩ := id hp
 refine .seq (.region (.box (vs := [_, _, _, _, _]) rfl rfl rfl (fun b5 => ?_)))
 refine .nil (TQ.then (.seq (.region (.v (.loadAgg (vs := [_, _, _, _, _]) isAgg107 sizeOf107 rfl .tk (by rfl) (by rfl)) ?_))))
 refine .call call93 (S_entry_Encode (e := e)) rfl .pk rfl (fun x10 hx10 => ?_)
 refine .v (.move rfl) (.v (.extract rfl rfl) (.v (.extract rfl rfl) (.alloc zeroValue155 rfl rfl (fun b6 => ?_))))
 refine .storeAll (us := [_, _]) sizeOf155 rfl rfl rfl rfl .up rfl ?_
 refine .v (.assign rfl) (.nil (TQ.then (.draw (H := [.row d _ _]) (.q 0 (.q 1 (.q 2 (.q 3 (.q 4 (.q 5 (.q 6 (.q 7 (.e 8 .done))))))))) (by kernel_rfl) .pk (by kernel_rfl) (by kernel_rfl) (by kernel_rfl) ?_)))
 refine .v rfl (.move rfl) (.v rfl (.nilCheck rfl) (.v rfl (.field fo_98_2_WDb rfl) (.v rfl (.load isAgg31 rfl .tk (by rfl)) ?_)))
 refine .v rfl (.move rfl) (.v rfl (.mul64 rfl rfl (by omega)) ?_)
 refine .v rfl (.sliceLo underlying31 sizeOf23 rfl rfl (by omega) (by omega)) ?_
 refine .v rfl (.sliceArr underlying155 sizeOf23 rfl) ?_
 refine .eff rfl (fun fu_ li_ hk_ hs_ hl_ => ?_)
 refine .copyRow (k := 2) (us := [w32 e.e0, w32 e.e1]) (new := w32s (encs (setE es p e))) underlying31 sizeOf23 rfl rfl (by show min _ _ = _; omega) .tk rfl rfl rfl .up (by rw [show 0 + (2 * p).toNat * 1 = 2 * p.toNat by omega]; exact encs_set (k := p.toNat) (by omega)) (by rw [w32s_length, encs_len]; omega) rfl rfl ?_
 refine .nil (TS.back hk_ hs_ hl_ .pk ?_)
 refine .done ?_
 exact .ret0 (by first | exact .inl rfl | exact .inr rfl) rfl () rfl trivial .en

set_option maxHeartbeats 400000 in
theorem S_pagedb_DB_isSpace {d m bw n : Nat} {births : Int} {es : List Ety} (hn : es.length = n) (hl : n ≤ 64) (ho : okE es) {p : Int} : Spec prog 59 [ptr d, i64 p].toArray [.row d [ptr m, i64 births, .slice (some ⟨bw, 0, none⟩) (2 * n) (2 * n)] 98, .row bw (w32s (encs es)) 23] (fun _ : Unit => True) (fun _ => .bool (decide (spaceE es p))) (fun _ => [.row d [ptr m, i64 births, .slice (some ⟨bw, 0, none⟩) (2 * n) (2 * n)] 98, .row bw (w32s (encs es)) 23]) := by
 refine Spec.body func59 rfl ntmps59 rfl (fun σ R => ?_)
 refine .seq (.region (.v (.assign rfl) (.nil (TQ.then (.seq (.region (.v (.move rfl) (.v (.move rfl) (.call call55 (S_pagedb_DB_has hn hl) rfl .pk rfl (fun x7 hx7 => ?_))))))))))
 refine .v (.move rfl) ?_
 refine' TL.andG (k := 6) (dj := 8) (d := 14) rfl ?_ ?_ ?_
 rotate_left
 ·
  intro g14 hd
  first | replace g14 := of_decide_eq_true g14 | skip
  refine .want rfl rfl (.v (.move rfl) (.want rfl rfl (.v (.move rfl) (.want rfl rfl (.call call56 (S_pagedb_DB_at hn hl ho g14) rfl .pk rfl (fun x11 hx11 => ?_))))))
  refine .want rfl rfl (.v (.fieldC underlying107 rfl isAgg64 rfl (by rfl)) ?_)
  refine .want rfl rfl (.v (.eql rfl rfl) (.v (.pick_true rfl rfl) (.nil ?_)))
  exact .keepE (Sub.cons rfl (Sub.push rfl (Sub.push rfl (Sub.push rfl (Sub.push rfl (Sub.push rfl (Sub.push rfl (Sub.pushSame hd Sub.rfl')))))))) .en
 ·
  intro g14 hd
  refine .skip rfl rfl rfl (.skip rfl rfl rfl (.skip rfl rfl rfl (.skip rfl rfl rfl (.skip rfl rfl rfl (.v (.pick_false rfl rfl) (.nil ?_))))))
  exact .keepE (Sub.cons rfl (Sub.push rfl (Sub.push rfl (Sub.push rfl (Sub.push rfl (Sub.push rfl (Sub.push rfl (Sub.pushSame hd Sub.rfl')))))))) .en
 first | refine .boolAnd ?_ | skip
 refine .v (.assign rfl) (.nil (TQ.then (.ret ?_)))
 exact .ret results59 (.tmp rfl .nil) () (by first | rfl | simp [tup, *]) trivial .en

theorem pl_39_WDb : Places prog 39 [(0, 1), (1, 1)] := ⟨_, underlying39, fun w => by simp [sizeOf3, sizeOf4]⟩
set_option maxHeartbeats 400000 in
theorem S_pagedb_secure {p : Int} : Spec prog 51 [i64 p].toArray [] (fun _ : Unit => True) (fun _ => .agg #[.bool true, i64 p]) (fun _ => []) := by
 refine Spec.body func51 rfl ntmps51 rfl (fun σ R => ?_)
 refine .seq (.region (.alloc zeroValue39 rfl rfl (fun b2 => ?_)))
 refine .nil (TQ.then (.seq (.region (.v (.move rfl) (.v (.build (cs := [_, _]) zeroValue39 pl_39_WDb rfl rfl) ?_)))))
 refine .storeAll (us := [_, _]) sizeOf39 rfl rfl rfl rfl .up rfl ?_
 refine .nil (TQ.then (.ret ?_))
 exact .ret results51 (.agg isAgg39 sizeOf39 rfl .tk (by rfl) (by rfl) .nil) () (by first | rfl | simp [tup, *]) trivial .en

theorem fo_98_0_WDb : FieldOff prog 98 0 0 := FieldOff.of 46 1 underlying98 rfl sizeOf46 rfl
set_option maxHeartbeats 400000 in
theorem S_pagedb_DB_Memory {d m bw n : Nat} {births : Int} {es : List Ety} (hn : es.length = n) (hl : n ≤ 64) : Spec prog 130 [ptr d].toArray [.row d [ptr m, i64 births, .slice (some ⟨bw, 0, none⟩) (2 * n) (2 * n)] 98, .row bw (w32s (encs es)) 23] (fun _ : Unit => True) (fun _ => ptr m) (fun _ => [.row d [ptr m, i64 births, .slice (some ⟨bw, 0, none⟩) (2 * n) (2 * n)] 98, .row bw (w32s (encs es)) 23]) := by
 refine Spec.body func130 rfl ntmps130 rfl (fun σ R => ?_)
 refine .seq (.region (.v (.assign rfl) (.nil (TQ.then (.seq (.region (.v (.move rfl) (.v (.nilCheck rfl) (.v (.field fo_98_0_WDb rfl) (.v (.load isAgg46 rfl .tk (by rfl)) ?_))))))))))
 refine .v (.assign rfl) (.nil (TQ.then (.ret ?_)))
 exact .ret results130 (.tmp rfl .nil) () (by first | rfl | simp [tup, *]) trivial .en

theorem fo_107_2_WDb : FieldOff prog 107 2 2 := FieldOff.of 3 1 underlying107 rfl sizeOf3 rfl
set_option maxHeartbeats 400000 in
theorem S_pagedb_DB_refs {d m bw n : Nat} {births : Int} {es : List Ety} (hn : es.length = n) (hl : n ≤ 64) (ho : okE es) {p k : Int} (hp : hasE es p) (hk : -100 ≤ k ∧ k ≤ 100) : Spec prog 60 [ptr d, i64 p, i64 k].toArray [.row d [ptr m, i64 births, .slice (some ⟨bw, 0, none⟩) (2 * n) (2 * n)] 98, .row bw (w32s (encs es)) 23] (fun _ : Unit => True) (fun _ => .tuple #[]) (fun _ => [.row d [ptr m, i64 births, .slice (some ⟨bw, 0, none⟩) (2 * n) (2 * n)] 98, .row bw (w32s (encs (setE es p { atE es p with refs := (atE es p).refs + k }))) 23]) := by
 refine Spec.body func60 rfl ntmps60 rfl (fun σ R => ?_)
 have he := ho.ok hp
 have hr : 0 ≤ (atE es p).refs ∧ (atE es p).refs ≤ 63 := by unfold Ety.ok at he; omega
 refine .seq (.region (.v (.move rfl) (.v (.move rfl) (.call call56 (S_pagedb_DB_at hn hl ho hp) rfl .pk rfl (fun x9 hx9 => ?_)))))
 refine .alloc zeroValue107 rfl rfl (fun b6 => ?_)
 refine .storeAll (us := [_, _, _, _, _]) sizeOf107 rfl rfl rfl rfl .up rfl ?_
 refine .nil (TQ.then (.seq (.region (.v (.field fo_107_2_WDb rfl) (.v (.load isAgg3 rfl .tk (by rfl)) ?_)))))
 refine .v (.move rfl) (.v (.add64 rfl rfl (by omega)) ?_)
 refine .v (.field fo_107_2_WDb rfl) (.store sizeOf3 rfl rfl rfl .up (by rfl) ?_)
 refine .nil (TQ.then (.region (.v (.move rfl) (.v (.move rfl) (.v (.loadAgg (vs := [_, _, _, _, _]) isAgg107 sizeOf107 rfl .tk (by rfl) (by rfl)) ?_)))))
 refine .call call57 (S_pagedb_DB_set hn hl hp (e := { atE es p with refs := (atE es p).refs + k })) rfl .pk rfl (fun x18 hx18 => ?_)
 refine .nil ?_
 exact .ret0 (by first | exact .inl rfl | exact .inr rfl) rfl () rfl trivial .en

set_option maxHeartbeats 400000 in
theorem S_pagedb_turns {t : Int} : Spec prog 58 [i64 t].toArray [] (fun _ : Unit => True) (fun _ => .bool (decide (turns t))) (fun _ => []) := by
 refine Spec.body func58 rfl ntmps58 rfl (fun σ R => ?_)
 refine .seq (.region (.v (.assign rfl) (.nil (TQ.then (.seq (.region (.v (.move rfl) (.v (.eql rfl rfl) (.v (.move rfl) ?_)))))))))
 refine' TL.orG (k := 3) (dj := 5) (d := 8) rfl ?_ ?_ ?_
 rotate_left
 ·
  intro g8 hd
  first | replace g8 := of_decide_eq_false g8 | skip
  refine .want rfl rfl (.v (.move rfl) (.want rfl rfl (.v (.eql rfl rfl) (.v (.pick_false rfl rfl) (.nil ?_)))))
  exact .keep (Sub.cons rfl (Sub.push rfl (Sub.push rfl (Sub.push rfl (Sub.pushSame hd Sub.rfl')))))
 ·
  intro g8 hd
  refine .skip rfl rfl rfl (.skip rfl rfl rfl (.v (.pick_true rfl rfl) (.nil ?_)))
  exact .keep (Sub.cons rfl (Sub.push rfl (Sub.push rfl (Sub.push rfl (Sub.pushSame hd Sub.rfl')))))
 first | refine .boolOr ?_ | skip
 refine .v (.move rfl) ?_
 refine' TL.orG (k := 3) (dj := 9) (d := 12) rfl ?_ ?_ ?_
 rotate_left
 ·
  intro g12 hd
  first | replace g12 := of_decide_eq_false g12 | skip
  refine .want rfl rfl (.v (.move rfl) (.want rfl rfl (.v (.eql rfl rfl) (.v (.pick_false rfl rfl) (.nil ?_)))))
  exact .keep (Sub.cons rfl (Sub.push rfl (Sub.push rfl (Sub.push rfl (Sub.pushSame hd Sub.rfl')))))
 ·
  intro g12 hd
  refine .skip rfl rfl rfl (.skip rfl rfl rfl (.v (.pick_true rfl rfl) (.nil ?_)))
  exact .keep (Sub.cons rfl (Sub.push rfl (Sub.push rfl (Sub.push rfl (Sub.pushSame hd Sub.rfl')))))
 first | refine .boolOr ?_ | skip
 refine .v (.assign rfl) (.nil (TQ.then (.ret ?_)))
 exact .ret results58 (.tmp rfl .nil) () (congrArg Value.bool (decide_eq_decide.2 (by unfold turns; omega))) trivial .en

theorem pl_107_WDb : Places prog 107 [(0, 1), (1, 1), (2, 1), (3, 1), (4, 1)] := ⟨_, underlying107, fun w => by simp [sizeOf3, sizeOf4, sizeOf64, sizeOf69]⟩
set_option maxHeartbeats 400000 in
theorem S_pagedb_DB_Entry {d m bw n : Nat} {births : Int} {es : List Ety} (hn : es.length = n) (hl : n ≤ 64) (ho : okE es) {p : Int} : Spec prog 74 [ptr d, i64 p].toArray [.row d [ptr m, i64 births, .slice (some ⟨bw, 0, none⟩) (2 * n) (2 * n)] 98, .row bw (w32s (encs es)) 23] (fun _ : Unit => True) (fun _ => .tuple #[(if hasE es p then (atE es p, (0 : Int)) else (.free, 5)).1.val, i64 (if hasE es p then (atE es p, (0 : Int)) else (.free, 5)).2]) (fun _ => [.row d [ptr m, i64 births, .slice (some ⟨bw, 0, none⟩) (2 * n) (2 * n)] 98, .row bw (w32s (encs es)) 23]) := by
 refine Spec.body func74 rfl ntmps74 rfl (fun σ R => ?_)
 refine .seq (.region (.alloc zeroValue107 rfl rfl (fun b4 => ?_)))
 refine .v (.assign rfl) (.nil (TQ.then (.seq (.seq (.region (.v (.move rfl) (.v (.move rfl) (.call call55 (S_pagedb_DB_has hn hl) rfl .pk rfl (fun x8 hx8 => ?_)))))))))
 refine .v (by first | exact Val.not_dec rfl | exact Val.not rfl) ?_
 refine .nil (TQ.then ?_)
 first | refine .cond_dec rfl (fun h1 => ?_) (fun h1 => ?_) | refine .cond rfl (fun h1 => ?_) (fun h1 => ?_)
 ·
  refine .seq (.region (.v (.build (cs := [_, _, _, _, _]) zeroValue107 pl_107_WDb rfl rfl) ?_))
  refine .storeAll (us := [_, _, _, _, _]) sizeOf107 rfl rfl rfl rfl .up rfl ?_
  refine .v (.assign rfl) (.nil (TQ.then (.ret (.then_ret ?_))))
  exact .ret results74 (.agg isAgg107 sizeOf107 rfl .tk (by rfl) (by rfl) (.tmp rfl .nil)) () (by rw [if_neg h1]; rfl) trivial .en
 ·
  refine .skip (TQ.then (.seq (.region (.v (.move rfl) (.v (.move rfl) (.call call56 (S_pagedb_DB_at hn hl ho (by simpa using h1)) rfl .pk rfl (fun x13 hx13 => ?_)))))))
  refine .storeAll (us := [_, _, _, _, _]) sizeOf107 rfl rfl rfl rfl .up rfl ?_
  refine .v (.assign rfl) (.nil (TQ.then (.ret ?_)))
  exact .ret results74 (.agg isAgg107 sizeOf107 rfl .tk (by rfl) (by rfl) (.tmp rfl .nil)) () (by rw [if_pos (by simpa using h1)]; rfl) trivial .en

theorem fo_98_1_WDb : FieldOff prog 98 1 1 := FieldOff.of 3 1 underlying98 rfl sizeOf3 rfl
set_option maxHeartbeats 400000 in
theorem S_pagedb_DB_TakeSpace {d m : Nat} {D : Db} {sp fi : Int} : Spec prog 20 [ptr d, i64 sp, i64 fi].toArray [DbA d m D] (fun _ : Unit => True) (fun _ => i64 (D.takeSpace sp fi).1) (fun _ => [DbA d m (D.takeSpace sp fi).2]) := by
 refine DbA.open (fun bw n hn hD => ?_)
 have hl : n ≤ 64 := hn ▸ hD.pages.2
 have hl1 : 1 ≤ n := hn ▸ hD.pages.1
 have ho := hD.ent
 refine Spec.body func20 rfl ntmps20 rfl (fun σ R => ?_)
 refine .seq (.region (.v (.assign rfl) (.nil (TQ.then (.seq (.block (.seq (.region (.v (.move rfl) (.v (.move rfl) (.call call55 (S_pagedb_DB_has hn hl) rfl .pk rfl (fun x10 hx10 => ?_))))))))))))
 refine .v (by first | exact Val.not_dec rfl | exact Val.not rfl) ?_
 refine .v (.move rfl) ?_
 refine' TL.orG (k := 5) (dj := 12) (d := 17) rfl ?_ ?_ ?_
 rotate_left
 ·
  intro g17 hd
  first | replace g17 := of_decide_eq_false g17 | skip
  refine .want rfl rfl (.v (.move rfl) (.want rfl rfl (.v (.move rfl) (.want rfl rfl (.call call55 (S_pagedb_DB_has hn hl) rfl .pk rfl (fun x15 hx15 => ?_))))))
  refine .want rfl rfl (.v (by first | exact Val.not_dec rfl | exact Val.not rfl) ?_)
  refine .v (.pick_false rfl rfl) (.nil ?_)
  exact .keepE (Sub.cons rfl (Sub.push rfl (Sub.push rfl (Sub.push rfl (Sub.push rfl (Sub.push rfl (Sub.pushSame hd Sub.rfl'))))))) .en
 ·
  intro g17 hd
  refine .skip rfl rfl rfl (.skip rfl rfl rfl (.skip rfl rfl rfl (.skip rfl rfl rfl (.v (.pick_true rfl rfl) (.nil ?_)))))
  exact .keepE (Sub.cons rfl (Sub.push rfl (Sub.push rfl (Sub.push rfl (Sub.push rfl (Sub.push rfl (Sub.pushSame hd Sub.rfl'))))))) .en
 first | refine .boolOr ?_ | skip
 refine .v (.assign rfl) (.nil (TQ.then ?_))
 first | refine .cond_dec rfl (fun h1 => ?_) (fun h1 => ?_) | refine .cond rfl (fun h1 => ?_) (fun h1 => ?_)
 ·
  refine .seq (.region (.v (.assign rfl) (.nil (TQ.then (.ret (.blk_ret (.then_ret ?_)))))))
  have e2 : D.takeSpace sp fi = (5, D) := by unfold Db.takeSpace; exact if_pos (Classical.not_and_iff_not_or_not.2 h1)
  exact .ret results20 (.tmp rfl .nil) () (by rw [e2]; rfl) trivial (DbA.finE e2 hD hn .pk)
 ·
  have hsp : hasE D.ents sp := Classical.byContradiction fun c => h1 (.inl c)
  have hfi : hasE D.ents fi := Classical.byContradiction fun c => h1 (.inr c)
  have hb := hD.births
  refine .seq (.region (.v (.move rfl) (.v (.move rfl) (.v (.eql rfl rfl) (.v (.assign rfl) (.nil (TQ.then ?_)))))))
  first | refine .cond_dec rfl (fun h2 => ?_) (fun h2 => ?_) | refine .cond rfl (fun h2 => ?_) (fun h2 => ?_)
  ·
   refine .seq (.region (.v (.assign rfl) (.nil (TQ.then (.ret (.blk_ret (.then_ret ?_)))))))
   have e2 : D.takeSpace sp fi = (1, D) := by unfold Db.takeSpace; rw [if_neg (fun c => c ⟨hsp, hfi⟩), if_pos h2]
   exact .ret results20 (.tmp rfl .nil) () (by rw [e2]; rfl) trivial (DbA.finE e2 hD hn .pk)
  ·
   refine .seq (.region (.v (.move rfl) (.v (.move rfl) (.call call56 (S_pagedb_DB_at hn hl ho hsp) rfl .pk rfl (fun x25 hx25 => ?_)))))
   refine .v (.fieldC underlying107 rfl isAgg64 rfl (by rfl)) ?_
   refine .v (.neq rfl rfl) (.v (.move rfl) ?_)
   refine' TL.orG (k := 6) (dj := 28) (d := 34) rfl ?_ ?_ ?_
   rotate_left
   ·
    intro g34 hd
    first | replace g34 := of_decide_eq_false g34 | skip
    refine .want rfl rfl (.v (.move rfl) (.want rfl rfl (.v (.move rfl) (.want rfl rfl (.call call56 (S_pagedb_DB_at hn hl ho hfi) rfl .pk rfl (fun x31 hx31 => ?_))))))
    refine .want rfl rfl (.v (.fieldC underlying107 rfl isAgg64 rfl (by rfl)) ?_)
    refine .want rfl rfl (.v (.neq rfl rfl) (.v (.pick_false rfl rfl) (.nil ?_)))
    exact .keepE (Sub.cons rfl (Sub.push rfl (Sub.push rfl (Sub.push rfl (Sub.push rfl (Sub.push rfl (Sub.push rfl (Sub.pushSame hd Sub.rfl')))))))) .en
   ·
    intro g34 hd
    refine .skip rfl rfl rfl (.skip rfl rfl rfl (.skip rfl rfl rfl (.skip rfl rfl rfl (.skip rfl rfl rfl (.v (.pick_true rfl rfl) (.nil ?_))))))
    exact .keepE (Sub.cons rfl (Sub.push rfl (Sub.push rfl (Sub.push rfl (Sub.push rfl (Sub.push rfl (Sub.push rfl (Sub.pushSame hd Sub.rfl')))))))) .en
   first | refine .boolOr ?_ | skip
   refine .v (.assign rfl) (.nil (TQ.then ?_))
   first | refine .cond_dec rfl (fun h3 => ?_) (fun h3 => ?_) | refine .cond rfl (fun h3 => ?_) (fun h3 => ?_)
   ·
    refine .seq (.region (.v (.assign rfl) (.nil (TQ.then (.ret (.blk_ret (.then_ret ?_)))))))
    have e2 : D.takeSpace sp fi = (120, D) := by unfold Db.takeSpace; rw [if_neg (fun c => c ⟨hsp, hfi⟩), if_neg h2]; exact if_pos (Classical.not_and_iff_not_or_not.2 h3)
    exact .ret results20 (.tmp rfl .nil) () (by rw [e2]; rfl) trivial (DbA.finE e2 hD hn .pk)
   ·
    have hz : (atE D.ents sp).ty = 0 ∧ (atE D.ents fi).ty = 0 := Classical.byContradiction fun c => h3 (Classical.not_and_iff_not_or_not.1 c)
    refine .seq (.region (.v (.move rfl) (.v (.nilCheck rfl) (.v (.field fo_98_1_WDb rfl) (.v (.load isAgg3 rfl .tk (by rfl)) ?_)))))
    refine .v (.geq rfl rfl) (.v (.assign rfl) (.nil (TQ.then ?_)))
    first | refine .cond_dec rfl (fun h4 => ?_) (fun h4 => ?_) | refine .cond rfl (fun h4 => ?_) (fun h4 => ?_)
    ·
     refine .seq (.region (.v (.assign rfl) (.nil (TQ.then (.ret (.blk_ret (.then_ret ?_)))))))
     have e2 : D.takeSpace sp fi = (240, D) := by unfold Db.takeSpace; rw [if_neg (fun c => c ⟨hsp, hfi⟩), if_neg h2, if_neg (fun c => c hz), if_pos h4]
     exact .ret results20 (.tmp rfl .nil) () (by rw [e2]; rfl) trivial (DbA.finE e2 hD hn .pk)
    ·
     refine .skip (.blk_normal (TQ.then (.seq (.region (.v (.move rfl) (.v (.move rfl) (.v (.move rfl) (.v (.build (cs := [_, _, _, _, _]) zeroValue107 pl_107_WDb rfl rfl) ?_))))))))
     refine .call call57 (S_pagedb_DB_set hn hl hsp (e := ⟨1, sp, 1, 1, false⟩)) rfl .pk rfl (fun x45 hx45 => ?_)
     refine .nil (TQ.then (.seq (.region (.v (.move rfl) (.v (.move rfl) (.v (.move rfl) (.v (.build (cs := [_, _, _, _, _]) zeroValue107 pl_107_WDb rfl rfl) ?_)))))))
     refine .call call57 (S_pagedb_DB_set (es := setE D.ents sp ⟨1, sp, 1, 1, false⟩) (by rw [setE_len]; exact hn) hl (hasE_set.2 hfi) (e := ⟨3, sp, 0, 0, false⟩)) rfl .pk rfl (fun x50 hx50 => ?_)
     refine .nil (TQ.then (.seq (.draw (H := [.row d _ _]) (.q 0 (.q 1 (.q 2 (.q 3 (.q 4 (.q 6 (.q 7 (.e 5 (.e 8 .done))))))))) (by kernel_rfl) .pk (by kernel_rfl) (by kernel_rfl) (by kernel_rfl) ?_)))
     refine .v rfl (.move rfl) (.v rfl (.nilCheck rfl) (.v rfl (.field fo_98_0_WDb rfl) (.v rfl (.load isAgg46 rfl .tk (by rfl)) ?_)))
     refine .v rfl (.move rfl) (.v rfl (.move rfl) (.v rfl (.conv_64_32 underlying3 underlying23 rfl) ?_))
     refine .eff rfl (fun fu_ li_ hk_ hs_ hl_ => ?_)
     refine .call call51 (S_pagedb_secure) rfl .pk rfl (fun x56 hx56 => ?_)
     refine .nil (TS.back hk_ hs_ hl_ .pk ?_)
     refine .eff rfl (fun fu_ li_ hk_ hs_ hl_ => ?_)
     refine .call call35 (S_mem_Memory_Write) rfl .pk rfl (fun x59 hx59 => ?_)
     refine .nil (TS.back hk_ hs_ hl_ .pk ?_)
     refine .done (TQ.then (.seq (.draw (H := [.row d _ _]) (.q 0 (.q 1 (.q 2 (.q 3 (.q 4 (.q 6 (.q 7 (.q 8 (.q 9 (.q 10 (.e 5 (.e 11 .done)))))))))))) (by kernel_rfl) .pk (by kernel_rfl) (by kernel_rfl) (by kernel_rfl) ?_)))
     refine .v rfl (.move rfl) (.v rfl (.nilCheck rfl) (.v rfl (.field fo_98_0_WDb rfl) (.v rfl (.load isAgg46 rfl .tk (by rfl)) ?_)))
     refine .v rfl (.move rfl) (.v rfl (.move rfl) (.v rfl (.nilCheck rfl) (.v rfl (.field fo_98_1_WDb rfl) (.v rfl (.load isAgg3 rfl .tk (by rfl)) ?_))))
     refine .v rfl (.conv_64_32 underlying3 underlying23 rfl) ?_
     refine .eff rfl (fun fu_ li_ hk_ hs_ hl_ => ?_)
     refine .call call51 (S_pagedb_secure) rfl .pk rfl (fun x65 hx65 => ?_)
     refine .nil (TS.back hk_ hs_ hl_ .pk ?_)
     refine .eff rfl (fun fu_ li_ hk_ hs_ hl_ => ?_)
     refine .call call35 (S_mem_Memory_Write) rfl .pk rfl (fun x71 hx71 => ?_)
     refine .nil (TS.back hk_ hs_ hl_ .pk ?_)
     refine .done (TQ.then (.seq (.draw (H := [.row d _ _]) (.q 0 (.q 1 (.q 2 (.q 3 (.q 4 (.e 5 (.e 6 .done))))))) (by kernel_rfl) .pk (by kernel_rfl) (by kernel_rfl) (by kernel_rfl) ?_)))
     refine .v rfl (.move rfl) (.v rfl (.nilCheck rfl) (.v rfl (.field fo_98_0_WDb rfl) (.v rfl (.load isAgg46 rfl .tk (by rfl)) ?_)))
     refine .v rfl (.move rfl) (.eff rfl (fun fu_ li_ hk_ hs_ hl_ => ?_))
     refine .call call51 (S_pagedb_secure) rfl .pk rfl (fun x77 hx77 => ?_)
     refine .nil (TS.back hk_ hs_ hl_ .pk ?_)
     refine .eff rfl (fun fu_ li_ hk_ hs_ hl_ => ?_)
     refine .call call35 (S_mem_Memory_Write (v := 0#32)) rfl .pk rfl (fun x78 hx78 => ?_)
     refine .nil (TS.back hk_ hs_ hl_ .pk ?_)
     refine .done (TQ.then (.seq (.region (.v (.move rfl) (.v (.nilCheck rfl) (.v (.field fo_98_1_WDb rfl) (.v (.load isAgg3 rfl .tk (by rfl)) ?_)))))))
     refine .v (.add64 rfl rfl (by omega)) ?_
     refine .v (.nilCheck rfl) (.v (.field fo_98_1_WDb rfl) (.store sizeOf3 rfl rfl rfl .up (by rfl) ?_))
     refine .nil (TQ.then (.seq (.region (.v (.assign rfl) (.nil (TQ.then (.ret ?_)))))))
     have e2 : D.takeSpace sp fi = (0, ⟨(((D.mem.write true sp 0 (BitVec.ofInt 32 fi)).2.write true sp 1 (BitVec.ofInt 32 D.births)).2.write true sp 2 0).2, D.births + 1, setE (setE D.ents sp ⟨1, sp, 1, 1, false⟩) fi ⟨3, sp, 0, 0, false⟩⟩) := by unfold Db.takeSpace; rw [if_neg (fun c => c ⟨hsp, hfi⟩), if_neg h2, if_neg (fun c => c hz), if_neg h4]
     have k1 := hsp.1; have k2 := hsp.2; have k3 := hfi.1; have k4 := hfi.2
     exact .ret results20 (.tmp rfl .nil) () (by rw [e2]; rfl) trivial (DbA.finE (n := n) e2 ⟨by simp [setE_len, Mem.write_len, hD.len], okE.set (okE.set ho (by unfold Ety.ok; simp; omega) hsp.2) (by unfold Ety.ok; simp; omega) (by rw [setE_len]; exact hsp.2), by simp; omega, by simp [setE_len]; exact hD.pages⟩ (by simp [setE_len]; exact hn) .pk)

set_option maxHeartbeats 400000 in
theorem S_pagedb_DB_Take {d m : Nat} {D : Db} {p t sp : Int} : Spec prog 22 [ptr d, i64 p, i64 t, i64 sp].toArray [DbA d m D] (fun _ : Unit => True) (fun _ => i64 (D.take p t sp).1) (fun _ => [DbA d m (D.take p t sp).2]) := by
 refine DbA.open (fun bw n hn hD => ?_)
 have hl : n ≤ 64 := hn ▸ hD.pages.2
 have hl1 : 1 ≤ n := hn ▸ hD.pages.1
 have ho := hD.ent
 refine Spec.body func22 rfl ntmps22 rfl (fun σ R => ?_)
 refine .seq (.region (.v (.assign rfl) (.nil (TQ.then (.seq (.block (.seq (.region (.v (.move rfl) (.v (.move rfl) (.call call55 (S_pagedb_DB_has hn hl) rfl .pk rfl (fun x12 hx12 => ?_))))))))))))
 refine .v (by first | exact Val.not_dec rfl | exact Val.not rfl) ?_
 refine .v (.assign rfl) (.nil (TQ.then ?_))
 first | refine .cond_dec rfl (fun h1 => ?_) (fun h1 => ?_) | refine .cond rfl (fun h1 => ?_) (fun h1 => ?_)
 ·
  refine .seq (.region (.v (.assign rfl) (.nil (TQ.then (.ret (.blk_ret (.then_ret ?_)))))))
  have e2 : D.take p t sp = (5, D) := by unfold Db.take; exact if_pos h1
  exact .ret results22 (.tmp rfl .nil) () (by rw [e2]; rfl) trivial (DbA.finE e2 hD hn .pk)
 ·
  have hp : hasE D.ents p := Classical.byContradiction fun c => h1 c
  refine .seq (.region (.v (.move rfl) (.v (.neq rfl rfl) (.v (.move rfl) ?_))))
  refine' TL.andG (k := 4) (dj := 17) (d := 21) rfl ?_ ?_ ?_
  rotate_left
  ·
   intro g21 hd
   first | replace g21 := of_decide_eq_true g21 | skip
   refine .want rfl rfl (.v (.move rfl) (.want rfl rfl (.call call58 (S_pagedb_turns) rfl .pk rfl (fun x19 hx19 => ?_))))
   refine .want rfl rfl (.v (by first | exact Val.not_dec rfl | exact Val.not rfl) ?_)
   refine .v (.pick_true rfl rfl) (.nil ?_)
   exact .keepE (Sub.cons rfl (Sub.push rfl (Sub.push rfl (Sub.push rfl (Sub.push rfl (Sub.pushSame hd Sub.rfl')))))) .en
  ·
   intro g21 hd
   refine .skip rfl rfl rfl (.skip rfl rfl rfl (.skip rfl rfl rfl (.v (.pick_false rfl rfl) (.nil ?_))))
   exact .keepE (Sub.cons rfl (Sub.push rfl (Sub.push rfl (Sub.push rfl (Sub.push rfl (Sub.pushSame hd Sub.rfl')))))) .en
  first | refine .boolAnd ?_ | skip
  refine .v (.assign rfl) (.nil (TQ.then ?_))
  first | refine .cond_dec rfl (fun h2 => ?_) (fun h2 => ?_) | refine .cond rfl (fun h2 => ?_) (fun h2 => ?_)
  ·
   refine .seq (.region (.v (.assign rfl) (.nil (TQ.then (.ret (.blk_ret (.then_ret ?_)))))))
   have e2 : D.take p t sp = (124, D) := by unfold Db.take; rw [if_neg (fun c => c hp)]; exact if_pos h2
   exact .ret results22 (.tmp rfl .nil) () (by rw [e2]; rfl) trivial (DbA.finE e2 hD hn .pk)
  ·
   have ht : t = 2 ∨ turns t := Classical.byContradiction fun c => h2 ⟨fun e => c (.inl e), fun e => c (.inr e)⟩
   refine .seq (.region (.v (.move rfl) (.v (.move rfl) (.call call59 (S_pagedb_DB_isSpace hn hl ho) rfl .pk rfl (fun x25 hx25 => ?_)))))
   refine .v (by first | exact Val.not_dec rfl | exact Val.not rfl) ?_
   refine .v (.move rfl) ?_
   refine' TL.orG (k := 6) (dj := 27) (d := 33) rfl ?_ ?_ ?_
   rotate_left
   ·
    intro g33 hd
    first | replace g33 := of_decide_eq_false g33 | skip
    have g34 : spaceE D.ents sp := Classical.byContradiction fun c => g33 c
    refine .want rfl rfl (.v (.move rfl) (.want rfl rfl (.v (.move rfl) (.want rfl rfl (.call call56 (S_pagedb_DB_at hn hl ho g34.1) rfl .pk rfl (fun x30 hx30 => ?_))))))
    refine .want rfl rfl (.v (.fieldC underlying107 rfl isAgg3 rfl (by rfl)) ?_)
    refine .want rfl rfl (.v (.geq rfl rfl) (.v (.pick_false rfl rfl) (.nil ?_)))
    exact .keepE (Sub.cons rfl (Sub.push rfl (Sub.push rfl (Sub.push rfl (Sub.push rfl (Sub.push rfl (Sub.push rfl (Sub.pushSame hd Sub.rfl')))))))) .en
   ·
    intro g33 hd
    refine .skip rfl rfl rfl (.skip rfl rfl rfl (.skip rfl rfl rfl (.skip rfl rfl rfl (.skip rfl rfl rfl (.v (.pick_true rfl rfl) (.nil ?_))))))
    exact .keepE (Sub.cons rfl (Sub.push rfl (Sub.push rfl (Sub.push rfl (Sub.push rfl (Sub.push rfl (Sub.push rfl (Sub.pushSame hd Sub.rfl')))))))) .en
   first | refine .boolOr ?_ | skip
   refine .v (.assign rfl) (.nil (TQ.then ?_))
   first | refine .cond_dec rfl (fun h3 => ?_) (fun h3 => ?_) | refine .cond rfl (fun h3 => ?_) (fun h3 => ?_)
   ·
    refine .seq (.region (.v (.assign rfl) (.nil (TQ.then (.ret (.blk_ret (.then_ret ?_)))))))
    have e2 : D.take p t sp = (122, D) := by unfold Db.take; rw [if_neg (fun c => c hp), if_neg h2]; exact if_pos h3
    exact .ret results22 (.tmp rfl .nil) () (by rw [e2]; rfl) trivial (DbA.finE e2 hD hn .pk)
   ·
    have hs : spaceE D.ents sp := Classical.byContradiction fun c => h3 (.inl c)
    have hr : ¬ 63 ≤ (atE D.ents sp).refs := fun c => h3 (.inr c)
    refine .seq (.region (.v (.move rfl) (.v (.move rfl) (.call call56 (S_pagedb_DB_at hn hl ho hp) rfl .pk rfl (fun x37 hx37 => ?_)))))
    refine .v (.fieldC underlying107 rfl isAgg64 rfl (by rfl)) ?_
    refine .v (.neq rfl rfl) (.v (.assign rfl) (.nil (TQ.then ?_)))
    first | refine .cond_dec rfl (fun h4 => ?_) (fun h4 => ?_) | refine .cond rfl (fun h4 => ?_) (fun h4 => ?_)
    ·
     refine .seq (.region (.v (.assign rfl) (.nil (TQ.then (.ret (.blk_ret (.then_ret ?_)))))))
     have e2 : D.take p t sp = (120, D) := by unfold Db.take; rw [if_neg (fun c => c hp), if_neg h2, if_neg h3, if_pos h4]
     exact .ret results22 (.tmp rfl .nil) () (by rw [e2]; rfl) trivial (DbA.finE e2 hD hn .pk)
    ·
     have hne : p ≠ sp := fun c => by subst c; have := hs.2; omega
     have hat : atE (setE D.ents p ⟨t, sp, 0, 0, false⟩) sp = atE D.ents sp := by rw [atE_set hp hs.1, if_neg hne]
     have h0 := ho.ok hs.1
     have ht2 : 0 ≤ t ∧ t ≤ 6 ∧ t ≠ 1 ∧ t ≠ 0 := by unfold turns at ht; omega
     have hs1 := hs.1.1
     have hs2 := hs.1.2
     have hm : (⟨t, sp, 0, 0, false⟩ : Ety).ok := by unfold Ety.ok; simp; omega
     have ho2 : okE (setE D.ents p ⟨t, sp, 0, 0, false⟩) := okE.set ho hm hs2
     refine .skip (.blk_normal (TQ.then (.seq (.region (.v (.move rfl) (.v (.move rfl) (.v (.move rfl) (.v (.move rfl) (.v (.build (cs := [_, _, _, _, _]) zeroValue107 pl_107_WDb rfl rfl) ?_)))))))))
     refine .call call57 (S_pagedb_DB_set hn hl hp (e := ⟨t, sp, 0, 0, false⟩)) rfl .pk rfl (fun x45 hx45 => ?_)
     refine .nil (TQ.then (.seq (.region (.v (.move rfl) (.v (.move rfl) (.call call60 (S_pagedb_DB_refs (es := setE D.ents p ⟨t, sp, 0, 0, false⟩) (by rw [setE_len]; exact hn) hl ho2 (hasE_set.2 hs.1) (by omega)) rfl .pk rfl (fun x48 hx48 => ?_)))))))
     refine .nil (TQ.then (.seq (.region (.v (.assign rfl) (.nil (TQ.then (.ret ?_)))))))
     have e2 : D.take p t sp = (0, (D.set p ⟨t, sp, 0, 0, false⟩).addRefs sp 1) := by unfold Db.take; rw [if_neg (fun c => c hp), if_neg h2, if_neg h3, if_neg h4]
     exact .ret results22 (.tmp rfl .nil) () (by rw [e2]; rfl) trivial (DbA.finE (n := n) e2 (Db.ok.set (Db.ok.set hD hm hs2) (by rw [show (D.set p ⟨t, sp, 0, 0, false⟩).at sp = atE D.ents sp from hat]; exact Ety.ok_refs h0 hs.2 (by unfold Ety.ok at h0; omega)) (by show (atE (setE D.ents p ⟨t, sp, 0, 0, false⟩) sp).own < _; rw [hat]; rw [Db.set_len]; exact (ho.own hs.1).2)) (by rw [Db.addRefs, Db.set_len, Db.set_len]; exact hn) .pk)

theorem fo_107_0_WDb : FieldOff prog 107 0 0 := FieldOff.of 64 1 underlying107 rfl sizeOf64 rfl
set_option maxHeartbeats 400000 in
theorem S_pagedb_DB_Turn {d m : Nat} {D : Db} {p t : Int} : Spec prog 24 [ptr d, i64 p, i64 t].toArray [DbA d m D] (fun _ : Unit => True) (fun _ => i64 (D.turn p t).1) (fun _ => [DbA d m (D.turn p t).2]) := by
 refine DbA.open (fun bw n hn hD => ?_)
 have hl : n ≤ 64 := hn ▸ hD.pages.2
 have hl1 : 1 ≤ n := hn ▸ hD.pages.1
 have ho := hD.ent
 refine Spec.body func24 rfl ntmps24 rfl (fun σ R => ?_)
 refine .seq (.region (.v (.assign rfl) (.nil (TQ.then (.seq (.seq (.region (.v (.move rfl) (.v (.move rfl) (.call call55 (S_pagedb_DB_has hn hl) rfl .pk rfl (fun x10 hx10 => ?_)))))))))))
 refine .v (by first | exact Val.not_dec rfl | exact Val.not rfl) ?_
 refine .nil (TQ.then ?_)
 first | refine .cond_dec rfl (fun h1 => ?_) (fun h1 => ?_) | refine .cond rfl (fun h1 => ?_) (fun h1 => ?_)
 ·
  refine .seq (.region (.v (.assign rfl) (.nil (TQ.then (.ret (.then_ret ?_))))))
  have e2 : D.turn p t = (5, D) := by unfold Db.turn; exact if_pos h1
  exact .ret results24 (.tmp rfl .nil) () (by rw [e2]; rfl) trivial (DbA.finE e2 hD hn .pk)
 ·
  have hp : hasE D.ents p := Classical.byContradiction fun c => h1 c
  have h0 := ho.ok hp
  refine .skip (TQ.then (.seq (.region (.v (.move rfl) (.v (.move rfl) (.call call56 (S_pagedb_DB_at hn hl ho hp) rfl .pk rfl (fun x14 hx14 => ?_)))))))
  refine .alloc zeroValue107 rfl rfl (fun b7 => ?_)
  refine .storeAll (us := [_, _, _, _, _]) sizeOf107 rfl rfl rfl rfl .up rfl ?_
  refine .nil (TQ.then (.seq (.seq (.region (.v (.field fo_107_0_WDb rfl) (.v (.load isAgg64 rfl .tk (by rfl)) ?_))))))
  refine .call call58 (S_pagedb_turns) rfl .pk rfl (fun x17 hx17 => ?_)
  refine .v (by first | exact Val.not_dec rfl | exact Val.not rfl) ?_
  refine .v (.move rfl) ?_
  refine' TL.orG (k := 4) (dj := 19) (d := 23) rfl ?_ ?_ ?_
  rotate_left
  ·
   intro g23 hd
   first | replace g23 := of_decide_eq_false g23 | skip
   refine .want rfl rfl (.v (.move rfl) (.want rfl rfl (.call call58 (S_pagedb_turns) rfl .pk rfl (fun x21 hx21 => ?_))))
   refine .want rfl rfl (.v (by first | exact Val.not_dec rfl | exact Val.not rfl) ?_)
   refine .v (.pick_false rfl rfl) (.nil ?_)
   exact .keepE (Sub.cons rfl (Sub.push rfl (Sub.push rfl (Sub.push rfl (Sub.push rfl (Sub.pushSame hd Sub.rfl')))))) .en
  ·
   intro g23 hd
   refine .skip rfl rfl rfl (.skip rfl rfl rfl (.skip rfl rfl rfl (.v (.pick_true rfl rfl) (.nil ?_))))
   exact .keepE (Sub.cons rfl (Sub.push rfl (Sub.push rfl (Sub.push rfl (Sub.push rfl (Sub.pushSame hd Sub.rfl')))))) .en
  first | refine .boolOr ?_ | skip
  refine .nil (TQ.then ?_)
  first | refine .cond_dec rfl (fun h2 => ?_) (fun h2 => ?_) | refine .cond rfl (fun h2 => ?_) (fun h2 => ?_)
  ·
   refine .seq (.region (.v (.assign rfl) (.nil (TQ.then (.ret (.then_ret ?_))))))
   have e2 : D.turn p t = (124, D) := by unfold Db.turn; rw [if_neg (fun c => c hp)]; exact if_pos (Classical.not_and_iff_not_or_not.2 h2)
   exact .ret results24 (.tmp rfl .nil) () (by rw [e2]; rfl) trivial (DbA.finE e2 hD hn .pk)
  ·
   have hts : turns (atE D.ents p).ty ∧ turns t := Classical.byContradiction fun c => h2 (Classical.not_and_iff_not_or_not.1 c)
   have hm : Ety.ok { atE D.ents p with ty := t } := Ety.ok_turn h0 hts.1 hts.2
   refine .skip (TQ.then (.seq (.region (.v (.move rfl) (.v (.field fo_107_0_WDb rfl) (.store sizeOf64 rfl rfl rfl .up (by rfl) ?_))))))
   refine .nil (TQ.then (.seq (.region (.v (.move rfl) (.v (.move rfl) (.v (.loadAgg (vs := [_, _, _, _, _]) isAgg107 sizeOf107 rfl .tk (by rfl) (by rfl)) ?_))))))
   refine .call call57 (S_pagedb_DB_set hn hl hp (e := { atE D.ents p with ty := t })) rfl .pk rfl (fun x29 hx29 => ?_)
   refine .nil (TQ.then (.seq (.draw (H := [.row d _ _]) (.q 0 (.q 1 (.q 2 (.q 3 (.q 4 (.e 5 (.e 6 (.q 7 .done)))))))) (by kernel_rfl) .pk (by kernel_rfl) (by kernel_rfl) (by kernel_rfl) ?_)))
   refine .v rfl (.move rfl) (.v rfl (.nilCheck rfl) (.v rfl (.field fo_98_0_WDb rfl) (.v rfl (.load isAgg46 rfl .tk (by rfl)) ?_)))
   refine .v rfl (.move rfl) (.eff rfl (fun fu_ li_ hk_ hs_ hl_ => ?_))
   refine .call call51 (S_pagedb_secure) rfl .pk rfl (fun x35 hx35 => ?_)
   refine .nil (TS.back hk_ hs_ hl_ .pk ?_)
   refine .eff rfl (fun fu_ li_ hk_ hs_ hl_ => ?_)
   refine .call call50 (S_mem_Memory_Zero) rfl .pk rfl (fun x36 hx36 => ?_)
   refine .nil (TS.back hk_ hs_ hl_ .pk ?_)
   refine .v rfl (.assign rfl) (.done (TQ.then (.ret ?_)))
   have e2 : D.turn p t = (0, { D.set p { D.at p with ty := t } with mem := (D.mem.zero true p).2 }) := by unfold Db.turn; rw [if_neg (fun c => c hp)]; exact if_neg (fun c => c hts)
   have e3 : (D.mem.zero true p).1 = 0 := by unfold Mem.zero; rw [if_pos (hD.has.2 hp)]
   exact .ret results24 (.tmp rfl .nil) () (by rw [e2, e3]; rfl) trivial (DbA.finE (n := n) e2 (Db.ok.mem (Db.ok.set hD hm (ho.own hp).2) Mem.zero_len.1) ((Db.set_len (e := { atE D.ents p with ty := t })).trans hn) .pk)

theorem fo_107_1_WDb : FieldOff prog 107 1 1 := FieldOff.of 3 1 underlying107 rfl sizeOf3 rfl
set_option maxHeartbeats 400000 in
theorem S_pagedb_DB_Give {d m : Nat} {D : Db} {p : Int} : Spec prog 26 [ptr d, i64 p].toArray [DbA d m D] (fun _ : Unit => True) (fun _ => i64 (D.give p).1) (fun _ => [DbA d m (D.give p).2]) := by
 refine DbA.open (fun bw n hn hD => ?_)
 have hl : n ≤ 64 := hn ▸ hD.pages.2
 have hl1 : 1 ≤ n := hn ▸ hD.pages.1
 have ho := hD.ent
 refine Spec.body func26 rfl ntmps26 rfl (fun σ R => ?_)
 refine .seq (.region (.v (.assign rfl) (.nil (TQ.then (.seq (.seq (.region (.v (.move rfl) (.v (.move rfl) (.call call55 (S_pagedb_DB_has hn hl) rfl .pk rfl (fun x8 hx8 => ?_)))))))))))
 refine .v (by first | exact Val.not_dec rfl | exact Val.not rfl) ?_
 refine .nil (TQ.then ?_)
 first | refine .cond_dec rfl (fun h1 => ?_) (fun h1 => ?_) | refine .cond rfl (fun h1 => ?_) (fun h1 => ?_)
 ·
  refine .seq (.region (.v (.assign rfl) (.nil (TQ.then (.ret (.then_ret ?_))))))
  have e2 : D.give p = (5, D) := by unfold Db.give; exact if_pos h1
  exact .ret results26 (.tmp rfl .nil) () (by rw [e2]; rfl) trivial (DbA.finE e2 hD hn .pk)
 ·
  have hp : hasE D.ents p := Classical.byContradiction fun c => h1 c
  have h0 := ho.ok hp
  have hw := ho.own hp
  have hp2 := hp.1
  have hp3 := hp.2
  have hf : Ety.ok .free := by decide
  have ho2 : okE (setE D.ents p .free) := okE.set ho hf (by show (0 : Int) < _; omega)
  have hn2 : (setE D.ents p .free).length = n := setE_len.trans hn
  refine .skip (TQ.then (.seq (.region (.v (.move rfl) (.v (.move rfl) (.call call56 (S_pagedb_DB_at hn hl ho hp) rfl .pk rfl (fun x12 hx12 => ?_)))))))
  refine .alloc zeroValue107 rfl rfl (fun b5 => ?_)
  refine .storeAll (us := [_, _, _, _, _]) sizeOf107 rfl rfl rfl rfl .up rfl ?_
  refine .nil (TQ.then (.seq (.block (.seq (.region (.v (.field fo_107_0_WDb rfl) (.v (.load isAgg64 rfl .tk (by rfl)) ?_)))))))
  refine .v (.eql rfl rfl) (.v (.assign rfl) (.nil (TQ.then ?_)))
  first | refine .cond_dec rfl (fun h2 => ?_) (fun h2 => ?_) | refine .cond rfl (fun h2 => ?_) (fun h2 => ?_)
  ·
   refine .seq (.region (.v (.assign rfl) (.nil (TQ.then (.ret (.blk_ret (.then_ret ?_)))))))
   have e2 : D.give p = (121, D) := by unfold Db.give; rw [if_neg (fun c => c hp), if_pos h2]
   exact .ret results26 (.tmp rfl .nil) () (by rw [e2]; rfl) trivial (DbA.finE e2 hD hn .pk)
  ·
   refine .seq (.region (.v (.field fo_107_0_WDb rfl) (.v (.load isAgg64 rfl .tk (by rfl)) ?_)))
   refine .v (.eql rfl rfl) (.v (.move rfl) ?_)
   refine' TL.andG (k := 4) (dj := 21) (d := 25) rfl ?_ ?_ ?_
   rotate_left
   ·
    intro g25 hd
    first | replace g25 := of_decide_eq_true g25 | skip
    refine .want rfl rfl (.v (.field fo_107_2_WDb rfl) (.want rfl rfl (.v (.load isAgg3 rfl .tk (by rfl)) ?_)))
    refine .want rfl rfl (.v (.gtr rfl rfl) (.v (.pick_true rfl rfl) (.nil ?_)))
    exact .keep (Sub.cons rfl (Sub.push rfl (Sub.push rfl (Sub.push rfl (Sub.push rfl (Sub.pushSame hd Sub.rfl'))))))
   ·
    intro g25 hd
    refine .skip rfl rfl rfl (.skip rfl rfl rfl (.skip rfl rfl rfl (.v (.pick_false rfl rfl) (.nil ?_))))
    exact .keep (Sub.cons rfl (Sub.push rfl (Sub.push rfl (Sub.push rfl (Sub.push rfl (Sub.pushSame hd Sub.rfl'))))))
   first | refine .boolAnd ?_ | skip
   refine .v (.assign rfl) (.nil (TQ.then ?_))
   first | refine .cond_dec rfl (fun h3 => ?_) (fun h3 => ?_) | refine .cond rfl (fun h3 => ?_) (fun h3 => ?_)
   ·
    refine .seq (.region (.v (.assign rfl) (.nil (TQ.then (.ret (.blk_ret (.then_ret ?_)))))))
    have e2 : D.give p = (123, D) := by unfold Db.give; rw [if_neg (fun c => c hp), if_neg h2, if_pos h3]
    exact .ret results26 (.tmp rfl .nil) () (by rw [e2]; rfl) trivial (DbA.finE e2 hD hn .pk)
   ·
    refine .skip (.blk_normal (TQ.then (.seq (.region (.v (.move rfl) (.v (.move rfl) (.v (.build (cs := [_, _, _, _, _]) zeroValue107 pl_107_WDb rfl rfl) ?_)))))))
    refine .call call57 (S_pagedb_DB_set hn hl hp (e := .free)) rfl .pk rfl (fun x29 hx29 => ?_)
    refine .nil (TQ.then (.seq (.seq (.region (.v (.field fo_107_0_WDb rfl) (.v (.load isAgg64 rfl .tk (by rfl)) ?_))))))
    refine .v (.neq rfl rfl) (.v (.move rfl) ?_)
    refine' TL.andG (k := 5) (dj := 33) (d := 38) rfl ?_ ?_ ?_
    rotate_left
    ·
     intro g38 hd
     first | replace g38 := of_decide_eq_true g38 | skip
     refine .want rfl rfl (.v (.move rfl) (.want rfl rfl (.v (.field fo_107_1_WDb rfl) (.want rfl rfl (.v (.load isAgg3 rfl .tk (by rfl)) ?_)))))
     refine .want rfl rfl (.call call59 (S_pagedb_DB_isSpace hn2 hl ho2) rfl .pk rfl (fun x37 hx37 => ?_))
     refine .v (.pick_true rfl rfl) (.nil ?_)
     exact .keepE (Sub.cons rfl (Sub.push rfl (Sub.push rfl (Sub.push rfl (Sub.push rfl (Sub.push rfl (Sub.pushSame hd Sub.rfl'))))))) .en
    ·
     intro g38 hd
     refine .skip rfl rfl rfl (.skip rfl rfl rfl (.skip rfl rfl rfl (.skip rfl rfl rfl (.v (.pick_false rfl rfl) (.nil ?_)))))
     exact .keepE (Sub.cons rfl (Sub.push rfl (Sub.push rfl (Sub.push rfl (Sub.push rfl (Sub.push rfl (Sub.pushSame hd Sub.rfl'))))))) .en
    first | refine .boolAnd ?_ | skip
    refine .v (.move rfl) ?_
    refine' TL.andG (k := 7) (dj := 39) (d := 46) rfl ?_ ?_ ?_
    rotate_left
    ·
     intro g46 hd
     first | replace g46 := of_decide_eq_true g46 | skip
     refine .want rfl rfl (.v (.move rfl) (.want rfl rfl (.v (.field fo_107_1_WDb rfl) (.want rfl rfl (.v (.load isAgg3 rfl .tk (by rfl)) ?_)))))
     refine .want rfl rfl (.call call56 (S_pagedb_DB_at hn2 hl ho2 g46.2.1) rfl .pk rfl (fun x43 hx43 => ?_))
     refine .want rfl rfl (.v (.fieldC underlying107 rfl isAgg3 rfl (by rfl)) ?_)
     refine .want rfl rfl (.v (.gtr rfl rfl) (.v (.pick_true rfl rfl) (.nil ?_)))
     exact .keepE (Sub.cons rfl (Sub.push rfl (Sub.push rfl (Sub.push rfl (Sub.push rfl (Sub.push rfl (Sub.push rfl (Sub.push rfl (Sub.pushSame hd Sub.rfl'))))))))) .en
    ·
     intro g46 hd
     refine .skip rfl rfl rfl (.skip rfl rfl rfl (.skip rfl rfl rfl (.skip rfl rfl rfl (.skip rfl rfl rfl (.skip rfl rfl rfl (.v (.pick_false rfl rfl) (.nil ?_)))))))
     exact .keepE (Sub.cons rfl (Sub.push rfl (Sub.push rfl (Sub.push rfl (Sub.push rfl (Sub.push rfl (Sub.push rfl (Sub.push rfl (Sub.pushSame hd Sub.rfl'))))))))) .en
    first | refine .boolAnd ?_ | skip
    refine .nil (TQ.then ?_)
    first | refine .cond_dec rfl (fun h4 => ?_) (fun h4 => ?_) | refine .cond rfl (fun h4 => ?_) (fun h4 => ?_)
    ·
     refine .region (.v (.move rfl) (.v (.field fo_107_1_WDb rfl) (.v (.load isAgg3 rfl .tk (by rfl)) ?_)))
     refine .call call60 (S_pagedb_DB_refs (k := -1) hn2 hl ho2 h4.1.2.1 (by omega)) rfl .pk rfl (fun x50 hx50 => ?_)
     refine .nil (TQ.then (.seq (.draw (H := [.row d _ _]) (.q 0 (.q 1 (.q 2 (.q 3 (.q 4 (.e 5 (.e 6 (.q 7 .done)))))))) (by kernel_rfl) .pk (by kernel_rfl) (by kernel_rfl) (by kernel_rfl) ?_)))
     refine .v rfl (.move rfl) (.v rfl (.nilCheck rfl) (.v rfl (.field fo_98_0_WDb rfl) (.v rfl (.load isAgg46 rfl .tk (by rfl)) ?_)))
     refine .v rfl (.move rfl) (.eff rfl (fun fu_ li_ hk_ hs_ hl_ => ?_))
     refine .call call51 (S_pagedb_secure) rfl .pk rfl (fun x56 hx56 => ?_)
     refine .nil (TS.back hk_ hs_ hl_ .pk ?_)
     refine .eff rfl (fun fu_ li_ hk_ hs_ hl_ => ?_)
     refine .call call50 (S_mem_Memory_Zero) rfl .pk rfl (fun x57 hx57 => ?_)
     refine .nil (TS.back hk_ hs_ hl_ .pk ?_)
     refine .v rfl (.assign rfl) (.done (TQ.then (.ret ?_)))
     have h1 := ho2.ok h4.1.2.1
     have e2 : D.give p = (0, { (D.set p .free).addRefs (D.at p).own (-1) with mem := (D.mem.zero true p).2 }) := by unfold Db.give; rw [if_neg (fun c => c hp), if_neg h2, if_neg h3]; simp only [if_pos (show (D.at p).ty ≠ 1 ∧ (D.set p .free).space (D.at p).own ∧ 0 < ((D.set p .free).at (D.at p).own).refs from ⟨h4.1.1, h4.1.2, h4.2⟩)]
     have e3 : (D.mem.zero true p).1 = 0 := by unfold Mem.zero; rw [if_pos (hD.has.2 hp)]
     exact .ret results26 (.tmp rfl .nil) () (by rw [e2, e3]; rfl) trivial (DbA.finE (n := n) e2 (Db.ok.mem (Db.ok.set (Db.ok.set hD hf (by show (0 : Int) < _; omega)) (Ety.ok_refs h1 h4.1.2.2 (by unfold Ety.ok at h1; have := h4.2; omega)) (ho2.own h4.1.2.1).2) Mem.zero_len.1) (by rw [Db.addRefs, Db.set_len, Db.set_len]; exact hn) .pk)
    ·
     refine .skip (TQ.then (.seq (.draw (H := [.row d _ _]) (.q 0 (.q 1 (.q 2 (.q 3 (.q 4 (.e 5 (.e 6 (.q 7 .done)))))))) (by kernel_rfl) .pk (by kernel_rfl) (by kernel_rfl) (by kernel_rfl) ?_)))
     refine .v rfl (.move rfl) (.v rfl (.nilCheck rfl) (.v rfl (.field fo_98_0_WDb rfl) (.v rfl (.load isAgg46 rfl .tk (by rfl)) ?_)))
     refine .v rfl (.move rfl) (.eff rfl (fun fu_ li_ hk_ hs_ hl_ => ?_))
     refine .call call51 (S_pagedb_secure) rfl .pk rfl (fun x56 hx56 => ?_)
     refine .nil (TS.back hk_ hs_ hl_ .pk ?_)
     refine .eff rfl (fun fu_ li_ hk_ hs_ hl_ => ?_)
     refine .call call50 (S_mem_Memory_Zero) rfl .pk rfl (fun x57 hx57 => ?_)
     refine .nil (TS.back hk_ hs_ hl_ .pk ?_)
     refine .v rfl (.assign rfl) (.done (TQ.then (.ret ?_)))
     have e2 : D.give p = (0, { D.set p .free with mem := (D.mem.zero true p).2 }) := by unfold Db.give; rw [if_neg (fun c => c hp), if_neg h2, if_neg h3]; simp only [if_neg (show ¬ ((D.at p).ty ≠ 1 ∧ (D.set p .free).space (D.at p).own ∧ 0 < ((D.set p .free).at (D.at p).own).refs) from fun c => h4 ⟨⟨c.1, c.2.1⟩, c.2.2⟩)]
     have e3 : (D.mem.zero true p).1 = 0 := by unfold Mem.zero; rw [if_pos (hD.has.2 hp)]
     exact .ret results26 (.tmp rfl .nil) () (by rw [e2, e3]; rfl) trivial (DbA.finE (n := n) e2 (Db.ok.mem (Db.ok.set hD hf (by show (0 : Int) < _; omega)) Mem.zero_len.1) hn2 .pk)

theorem fo_107_3_WDb : FieldOff prog 107 3 3 := FieldOff.of 69 1 underlying107 rfl sizeOf69 rfl
set_option maxHeartbeats 400000 in
theorem S_pagedb_DB_SetState {d m : Nat} {D : Db} {p st : Int} : Spec prog 28 [ptr d, i64 p, i64 st].toArray [DbA d m D] (fun _ : Unit => True) (fun _ => i64 (D.setState p st).1) (fun _ => [DbA d m (D.setState p st).2]) := by
 refine DbA.open (fun bw n hn hD => ?_)
 have hl : n ≤ 64 := hn ▸ hD.pages.2
 have hl1 : 1 ≤ n := hn ▸ hD.pages.1
 have ho := hD.ent
 refine Spec.body func28 rfl ntmps28 rfl (fun σ R => ?_)
 refine .seq (.region (.v (.assign rfl) (.nil (TQ.then (.seq (.seq (.region (.v (.move rfl) (.v (.move rfl) (.call call55 (S_pagedb_DB_has hn hl) rfl .pk rfl (fun x10 hx10 => ?_)))))))))))
 refine .v (by first | exact Val.not_dec rfl | exact Val.not rfl) ?_
 refine .nil (TQ.then ?_)
 first | refine .cond_dec rfl (fun h1 => ?_) (fun h1 => ?_) | refine .cond rfl (fun h1 => ?_) (fun h1 => ?_)
 ·
  refine .seq (.region (.v (.assign rfl) (.nil (TQ.then (.ret (.then_ret ?_))))))
  have e2 : D.setState p st = (5, D) := by unfold Db.setState; exact if_pos h1
  exact .ret results28 (.tmp rfl .nil) () (by rw [e2]; rfl) trivial (DbA.finE e2 hD hn .pk)
 ·
  have hp : hasE D.ents p := Classical.byContradiction fun c => h1 c
  have h0 := ho.ok hp
  refine .skip (TQ.then (.seq (.region (.v (.move rfl) (.v (.move rfl) (.call call56 (S_pagedb_DB_at hn hl ho hp) rfl .pk rfl (fun x14 hx14 => ?_)))))))
  refine .alloc zeroValue107 rfl rfl (fun b7 => ?_)
  refine .storeAll (us := [_, _, _, _, _]) sizeOf107 rfl rfl rfl rfl .up rfl ?_
  refine .nil (TQ.then (.seq (.block (.seq (.region (.v (.field fo_107_0_WDb rfl) (.v (.load isAgg64 rfl .tk (by rfl)) ?_)))))))
  refine .v (.neq rfl rfl) (.v (.assign rfl) (.nil (TQ.then ?_)))
  first | refine .cond_dec rfl (fun h2 => ?_) (fun h2 => ?_) | refine .cond rfl (fun h2 => ?_) (fun h2 => ?_)
  ·
   refine .seq (.region (.v (.assign rfl) (.nil (TQ.then (.ret (.blk_ret (.then_ret ?_)))))))
   have e2 : D.setState p st = (124, D) := by unfold Db.setState; rw [if_neg (fun c => c hp), if_pos h2]
   exact .ret results28 (.tmp rfl .nil) () (by rw [e2]; rfl) trivial (DbA.finE e2 hD hn .pk)
  ·
   refine .seq (.region (.v (.move rfl) (.v (.neq rfl rfl) (.v (.move rfl) ?_))))
   refine' TL.andG (k := 8) (dj := 22) (d := 30) rfl ?_ ?_ ?_
   rotate_left
   ·
    intro g30 hd
    first | replace g30 := of_decide_eq_true g30 | skip
    refine .want rfl rfl (.v (.field fo_107_3_WDb rfl) (.want rfl rfl (.v (.load isAgg69 rfl .tk (by rfl)) ?_)))
    refine .want rfl rfl (.v (.neq rfl rfl) (.want rfl rfl (.v (.move rfl) ?_)))
    refine' TL.orG (k := 3) (dj := 26) (d := 29) rfl ?_ ?_ ?_
    rotate_left
    ·
     intro g29 hd
     first | replace g29 := of_decide_eq_false g29 | skip
     refine .want rfl rfl (.v (.move rfl) (.want rfl rfl (.v (.neq rfl rfl) (.want rfl rfl (.v (.pick_false rfl rfl) (.nil ?_))))))
     exact .keep (Sub.cons rfl (Sub.push rfl (Sub.push rfl (Sub.push rfl (Sub.pushSame hd Sub.rfl')))))
    ·
     intro g29 hd
     refine .skip rfl rfl rfl (.skip rfl rfl rfl (.want rfl rfl (.v (.pick_true rfl rfl) (.nil ?_))))
     exact .keep (Sub.cons rfl (Sub.push rfl (Sub.push rfl (Sub.push rfl (Sub.pushSame hd Sub.rfl')))))
    first | refine .boolOr ?_ | skip
    refine .v (.pick_true rfl rfl) (.nil ?_)
    exact .keep (Sub.cons rfl (Sub.push rfl (Sub.push rfl (Sub.push rfl (Sub.push rfl (Sub.push rfl (Sub.push rfl (Sub.pushSame hd Sub.rfl'))))))))
   ·
    intro g30 hd
    refine .skip rfl rfl rfl (.skip rfl rfl rfl (.skip rfl rfl rfl (.skip rfl rfl rfl (.skip_undef rfl rfl rfl (.skip_undef rfl rfl rfl (.skip rfl rfl rfl (.v (.pick_false rfl rfl) (.nil ?_))))))))
    exact .keep (Sub.cons rfl (Sub.push rfl (Sub.push rfl (Sub.push rfl (Sub.push rfl (Sub.push rfl (Sub.push rfl (Sub.push rfl (Sub.push rfl (Sub.pushSame hd Sub.rfl'))))))))))
   first | refine .boolAnd ?_ | skip
   refine .v (.assign rfl) (.nil (TQ.then ?_))
   first | refine .cond_dec rfl (fun h3 => ?_) (fun h3 => ?_) | refine .cond rfl (fun h3 => ?_) (fun h3 => ?_)
   ·
    refine .seq (.region (.v (.assign rfl) (.nil (TQ.then (.ret (.blk_ret (.then_ret ?_)))))))
    have e2 : D.setState p st = (3, D) := by unfold Db.setState; rw [if_neg (fun c => c hp), if_neg h2, if_pos h3]
    exact .ret results28 (.tmp rfl .nil) () (by rw [e2]; rfl) trivial (DbA.finE e2 hD hn .pk)
   ·
    have hm : Ety.ok { atE D.ents p with st := st } := Ety.ok_state h0 (Classical.byContradiction h2) (by omega)
    refine .skip (.blk_normal (TQ.then (.seq (.region (.v (.move rfl) (.v (.field fo_107_3_WDb rfl) (.store sizeOf69 rfl rfl rfl .up (by rfl) ?_)))))))
    refine .nil (TQ.then (.seq (.region (.v (.move rfl) (.v (.move rfl) (.v (.loadAgg (vs := [_, _, _, _, _]) isAgg107 sizeOf107 rfl .tk (by rfl) (by rfl)) ?_))))))
    refine .call call57 (S_pagedb_DB_set hn hl hp (e := { atE D.ents p with st := st })) rfl .pk rfl (fun x36 hx36 => ?_)
    refine .nil (TQ.then (.seq (.region (.v (.assign rfl) (.nil (TQ.then (.ret ?_)))))))
    have e2 : D.setState p st = (0, D.set p { D.at p with st := st }) := by unfold Db.setState; rw [if_neg (fun c => c hp), if_neg h2, if_neg h3]
    exact .ret results28 (.tmp rfl .nil) () (by rw [e2]; rfl) trivial (DbA.finE (n := n) e2 (Db.ok.set hD hm (ho.own hp).2) ((Db.set_len (e := { atE D.ents p with st := st })).trans hn) .pk)

theorem fo_107_4_WDb : FieldOff prog 107 4 4 := FieldOff.of 4 1 underlying107 rfl sizeOf4 rfl
set_option maxHeartbeats 400000 in
theorem S_pagedb_DB_SetEntered {d m : Nat} {D : Db} {p : Int} {on : Bool} : Spec prog 30 [ptr d, i64 p, .bool on].toArray [DbA d m D] (fun _ : Unit => True) (fun _ => i64 (D.setEntered p on).1) (fun _ => [DbA d m (D.setEntered p on).2]) := by
 refine DbA.open (fun bw n hn hD => ?_)
 have hl : n ≤ 64 := hn ▸ hD.pages.2
 have hl1 : 1 ≤ n := hn ▸ hD.pages.1
 have ho := hD.ent
 refine Spec.body func30 rfl ntmps30 rfl (fun σ R => ?_)
 refine .seq (.region (.v (.assign rfl) (.nil (TQ.then (.seq (.seq (.region (.v (.move rfl) (.v (.move rfl) (.call call55 (S_pagedb_DB_has hn hl) rfl .pk rfl (fun x10 hx10 => ?_)))))))))))
 refine .v (by first | exact Val.not_dec rfl | exact Val.not rfl) ?_
 refine .nil (TQ.then ?_)
 first | refine .cond_dec rfl (fun h1 => ?_) (fun h1 => ?_) | refine .cond rfl (fun h1 => ?_) (fun h1 => ?_)
 ·
  refine .seq (.region (.v (.assign rfl) (.nil (TQ.then (.ret (.then_ret ?_))))))
  have e2 : D.setEntered p on = (5, D) := by unfold Db.setEntered; exact if_pos h1
  exact .ret results30 (.tmp rfl .nil) () (by rw [e2]; rfl) trivial (DbA.finE e2 hD hn .pk)
 ·
  have hp : hasE D.ents p := Classical.byContradiction fun c => h1 c
  have h0 := ho.ok hp
  refine .skip (TQ.then (.seq (.region (.v (.move rfl) (.v (.move rfl) (.call call56 (S_pagedb_DB_at hn hl ho hp) rfl .pk rfl (fun x14 hx14 => ?_)))))))
  refine .alloc zeroValue107 rfl rfl (fun b7 => ?_)
  refine .storeAll (us := [_, _, _, _, _]) sizeOf107 rfl rfl rfl rfl .up rfl ?_
  refine .nil (TQ.then (.seq (.seq (.region (.v (.field fo_107_0_WDb rfl) (.v (.load isAgg64 rfl .tk (by rfl)) ?_))))))
  refine .v (.neq rfl rfl) (.nil (TQ.then ?_))
  first | refine .cond_dec rfl (fun h2 => ?_) (fun h2 => ?_) | refine .cond rfl (fun h2 => ?_) (fun h2 => ?_)
  ·
   refine .seq (.region (.v (.assign rfl) (.nil (TQ.then (.ret (.then_ret ?_))))))
   have e2 : D.setEntered p on = (124, D) := by unfold Db.setEntered; rw [if_neg (fun c => c hp), if_pos h2]
   exact .ret results30 (.tmp rfl .nil) () (by rw [e2]; rfl) trivial (DbA.finE e2 hD hn .pk)
  ·
   have hm : Ety.ok { atE D.ents p with ent := on } := Ety.ok_entered h0 (Classical.byContradiction h2)
   refine .skip (TQ.then (.seq (.region (.v (.move rfl) (.v (.field fo_107_4_WDb rfl) (.store sizeOf4 rfl rfl rfl .up (by rfl) ?_))))))
   refine .nil (TQ.then (.seq (.region (.v (.move rfl) (.v (.move rfl) (.v (.loadAgg (vs := [_, _, _, _, _]) isAgg107 sizeOf107 rfl .tk (by rfl) (by rfl)) ?_))))))
   refine .call call57 (S_pagedb_DB_set hn hl hp (e := { atE D.ents p with ent := on })) rfl .pk rfl (fun x23 hx23 => ?_)
   refine .nil (TQ.then (.seq (.region (.v (.assign rfl) (.nil (TQ.then (.ret ?_)))))))
   have e2 : D.setEntered p on = (0, D.set p { D.at p with ent := on }) := by unfold Db.setEntered; rw [if_neg (fun c => c hp), if_neg h2]
   exact .ret results30 (.tmp rfl .nil) () (by rw [e2]; rfl) trivial (DbA.finE (n := n) e2 (Db.ok.set hD hm (ho.own hp).2) ((Db.set_len (e := { atE D.ents p with ent := on })).trans hn) .pk)

set_option maxHeartbeats 400000 in
theorem S_pagedb_DB_Words {d m : Nat} {D : Db} : Spec prog 43 [ptr d].toArray [DbA d m D] (fun x : Nat => True) (fun x => .slice (some ⟨x, 0, none⟩) (1 + 2 * D.ents.length) (1 + 2 * D.ents.length)) (fun x => [DbA d m D, .row x (w32s D.words) 23]) := by
 refine DbA.open (fun bw n hn hD => ?_)
 have hl : n ≤ 64 := hn ▸ hD.pages.2
 have hl1 : 1 ≤ n := hn ▸ hD.pages.1
 have ho := hD.ent
 refine Spec.body func43 rfl ntmps43 rfl (fun σ R => ?_)
 refine .seq (.region (.v (.assign rfl) (.nil (TQ.then (.seq (.region (.v (.move rfl) (.v (.nilCheck rfl) (.v (.field fo_98_2_WDb rfl) (.v (.load isAgg31 rfl .tk (by rfl)) ?_))))))))))
 refine .v (.len underlying31 rfl) ?_
 refine .v (.add64 rfl rfl (by omega)) ?_
 refine .make underlying31 typeInfo23 rfl rfl rfl rfl rfl (by omega) (by simp only [t23]; omega) (by omega) rfl (fun b10 => ?_)
 refine .v (.assign rfl) (.nil (TQ.then (.seq ?_)))
 rw [show (1 + ((2 * n : Nat) : Int)).toNat = 2 * n + 1 by omega]
 refine .region (.v (.move rfl) (.v (.move rfl) (.v (.nilCheck rfl) (.v (.field fo_98_1_WDb rfl) (.v (.load isAgg3 rfl .tk (by rfl)) ?_)))))
 refine .v (.conv_64_32 underlying3 underlying23 rfl) ?_
 refine .v (.ixSlice1 underlying31 sizeOf23 rfl rfl (by omega)) ?_
 refine .store sizeOf23 rfl rfl rfl .up (by rfl) ?_
 refine .nil (TQ.then (.seq (.draw (H := [.row d _ _]) (.q 0 (.q 1 (.q 2 (.q 3 (.q 4 (.q 5 (.e 6 .done))))))) (by kernel_rfl) .pk (by kernel_rfl) (by kernel_rfl) (by kernel_rfl) ?_)))
 refine .v rfl (.move rfl) (.v rfl (.sliceLo underlying31 sizeOf23 rfl rfl (by omega) (by omega)) ?_)
 refine .v rfl (.move rfl) (.v rfl (.nilCheck rfl) (.v rfl (.field fo_98_2_WDb rfl) (.v rfl (.load isAgg31 rfl .tk (by rfl)) ?_)))
 refine .eff rfl (fun fu_ li_ hk_ hs_ hl_ => ?_)
 refine .copyRow (k := 2 * n) (us := w32s (encs D.ents)) (new := w32s D.words) underlying31 sizeOf23 rfl rfl (by show min _ _ = _; omega) .tk (by rw [List.drop_zero, List.take_of_length_le]; rw [w32s_length, encs_len]; omega) (by rw [w32s_length, encs_len, hn]) w32s_cells .up (by rw [List.replicate_succ, List.drop_eq_nil_of_le (by simp; omega)]; simp [Db.words, w32s]) (by simp; omega) rfl rfl ?_
 refine .nil (TS.back hk_ hs_ hl_ .pk ?_)
 refine .done (TQ.then (.seq (.region (.v (.move rfl) (.v (.assign rfl) (.nil (TQ.then (.ret ?_))))))))
 exact .ret results43 (.tmp rfl .nil) b10 (by rw [hn, Nat.add_comm]; rfl) trivial (DbA.fin' hD hn .pk)

theorem pl_98_WDb : Places prog 98 [(0, 1), (1, 1), (2, 1)] := ⟨_, underlying98, fun w => by simp [sizeOf3, sizeOf31, sizeOf46]⟩
set_option maxHeartbeats 400000 in
theorem S_pagedb_New {m : Nat} {M : Mem} (hM : 1 ≤ M.sec.length ∧ M.sec.length ≤ 64) : Spec prog 17 [ptr m].toArray [MemA m M] (fun x : Nat => True) (fun x => ptr x) (fun x => [DbA x m (Db.new M)]) := by
 refine Spec.body func17 rfl ntmps17 rfl (fun σ R => ?_)
 refine .seq (.region (.v (.assign rfl) (.nil (TQ.then (.seq (.seq (.region (.v (.move rfl) (.v (.eqlNil underlying46 rfl rfl) ?_)))))))))
 refine .nil (TQ.then ?_)
 first | refine .cond_dec rfl (fun h1 => ?_) (fun h1 => ?_) | refine .cond rfl (fun h1 => ?_) (fun h1 => ?_)
 ·
  cases h1
 ·
  refine .skip (TQ.then (.seq (.seq (.region (.v (.move rfl) (.call call46 (S_mem_Memory_Secure) rfl .pk rfl (fun x7 hx7 => ?_)))))))
  refine .v (.move rfl) (.nil (TQ.then (.block (.loop (X := {p : Nat // p ≤ M.sec.length}) (s0 := [(0, _), (7, _)]) (fun x => [(8, i64 x.1)]) (fun x => [MemA m (M.wipe x.1)]) (fun x => M.sec.length - x.1) ⟨0, by omega⟩ .st .pk (fun x => ?_)))))
  refine .seq (.region (.v (.lss rfl rfl) (.nil (TQ.then (.seq ?_)))))
  first | refine .cond_dec rfl (fun h2 => ?_) (fun h2 => ?_) | refine .cond rfl (fun h2 => ?_) (fun h2 => ?_)
  ·
   refine .skip (TQ.then (.seq (.block (.seq (.region (.v (.move rfl) (.v (.assign rfl) (.nil (TQ.then (.region (.v (.move rfl) (.v (.move rfl) (.call call51 (S_pagedb_secure) rfl .pk rfl (fun x13 hx13 => ?_))))))))))))))
   refine .call call50 (S_mem_Memory_Zero) rfl .pk rfl (fun x14 hx14 => ?_)
   refine .nil (.blk_normal (TQ.then (.region (.v (.add64 rfl rfl (by omega)) ?_))))
   refine .v (.move rfl) (.nil ?_)
   exact .next ⟨x.1 + 1, by omega⟩ (by simp; omega) (by refine Sub.cons (congrArg (fun z => some (i64 z)) (by simp)) ?_; repeat first | exact Sub.nil | refine Sub.cons rfl ?_) .en
  ·
   refine .exit (.then_exit (.then_exit (.blk_hit (TQ.then (.seq ?_)))))
   obtain ⟨p, hp⟩ := x
   obtain rfl : p = M.sec.length := by simp at h2; omega
   have hw := (Mem.wipe_len (M := M) (n := M.sec.length)).1
   dsimp only
   refine .region (.v (.move rfl) (.v (.move rfl) (.call call46 (S_mem_Memory_Secure) rfl .pk rfl (fun x18 hx18 => ?_))))
   refine .v (.mul64 rfl rfl (by omega)) ?_
   refine .make underlying31 typeInfo23 rfl rfl rfl rfl rfl (by omega) (by simp only [t23]; omega) (by omega) rfl (fun b20 => ?_)
   refine .v (.build (cs := [_, _, _]) zeroValue98 pl_98_WDb rfl rfl) ?_
   refine .box (vs := [_, _, _]) rfl rfl rfl (fun b22 => ?_)
   refine .v (.assign rfl) (.nil (TQ.then (.ret ?_)))
   rw [show (2 * ((M.wipe M.sec.length).sec.length : Int)).toNat = 2 * M.sec.length by omega, words_zero]
   simp only [Value.cells]
   exact .ret results17 (.tmp rfl .nil) b22 (rfl) trivial (DbA.fin (D := Db.new M) (n := M.sec.length) (Db.new_ok hM.2 hM.1) (by simp [Db.new]) .pk)

def LoadP (m : Nat) (M : Mem) (ws : List W) : Option Nat → Assn
 | none => MemA m M
 | some d => DbA d m (Db.loadE M ws)

set_option maxHeartbeats 400000 in
theorem S_pagedb_Load {m bs wc : Nat} {M : Mem} {ws : List W} (hM : 1 ≤ M.sec.length ∧ M.sec.length ≤ 64) (hw : ws.length ≤ 1000 ∧ ws.length ≤ wc) : Spec prog 70 [ptr m, .slice (some ⟨bs, 0, none⟩) ws.length wc].toArray [MemA m M, .row bs (w32s ws) 23] (fun x : Option Nat => (x.isSome ↔ Db.loadOk M ws)) (fun x => .tuple #[optr x, i64 (if x.isSome then 0 else 110)]) (fun x => [LoadP m M ws x, .row bs (w32s ws) 23]) := by
 refine Spec.body func70 rfl ntmps70 rfl (fun σ R => ?_)
 refine .seq (.region (.v (.assign rfl) (.v (.assign rfl) (.nil (TQ.then (.seq (.seq (.region (.v (.move rfl) (.v (.eqlNil underlying46 rfl rfl) ?_))))))))))
 refine .v (.move rfl) ?_
 refine' TL.orG (k := 8) (dj := 12) (d := 20) rfl ?_ ?_ ?_
 rotate_left
 ·
  intro g20 hd
  first | replace g20 := of_decide_eq_false g20 | skip
  refine .want rfl rfl (.v (.move rfl) (.want rfl rfl (.v (.len underlying31 rfl) ?_)))
  refine .want rfl rfl (.v (.move rfl) (.want rfl rfl (.call call46 (S_mem_Memory_Secure) rfl .pk rfl (fun x16 hx16 => ?_))))
  refine .want rfl rfl (.v (.mul64 rfl rfl (by omega)) ?_)
  refine .want rfl rfl (.v (.add64 rfl rfl (by omega)) ?_)
  refine .want rfl rfl (.v (.neq rfl rfl) (.v (.pick_false rfl rfl) (.nil ?_)))
  exact .keepE (Sub.cons rfl (Sub.push rfl (Sub.push rfl (Sub.push rfl (Sub.push rfl (Sub.push rfl (Sub.push rfl (Sub.push rfl (Sub.push rfl (Sub.pushSame hd Sub.rfl')))))))))) .en
 ·
  intro g20 hd
  refine .skip rfl rfl rfl (.skip rfl rfl rfl (.skip rfl rfl rfl (.skip rfl rfl rfl (.skip rfl rfl rfl (.skip rfl rfl rfl (.skip rfl rfl rfl (.v (.pick_true rfl rfl) (.nil ?_))))))))
  exact .keepE (Sub.cons rfl (Sub.push rfl (Sub.push rfl (Sub.push rfl (Sub.push rfl (Sub.push rfl (Sub.push rfl (Sub.push rfl (Sub.push rfl (Sub.pushSame hd Sub.rfl')))))))))) .en
 first | refine .boolOr ?_ | skip
 refine .v (.move rfl) ?_
 refine' TL.orG (k := 5) (dj := 21) (d := 26) rfl ?_ ?_ ?_
 rotate_left
 ·
  intro g26 hd
  first | replace g26 := of_decide_eq_false g26 | skip
  refine .want rfl rfl (.v (.move rfl) (.want rfl rfl (.v (.ixSlice1 underlying31 sizeOf23 rfl rfl (by omega)) ?_)))
  refine .want rfl rfl (.v (.load isAgg23 rfl .tk (w32s_head (by omega))) ?_)
  refine .want rfl rfl (.v (.gtr32 (b := 64#32) rfl rfl) ?_)
  refine .v (.pick_false rfl rfl) (.nil ?_)
  exact .keep (Sub.cons rfl (Sub.push rfl (Sub.push rfl (Sub.push rfl (Sub.push rfl (Sub.push rfl (Sub.pushSame hd Sub.rfl')))))))
 ·
  intro g26 hd
  refine .skip rfl rfl rfl (.skip rfl rfl rfl (.skip rfl rfl rfl (.skip rfl rfl rfl (.v (.pick_true rfl rfl) (.nil ?_)))))
  exact .keep (Sub.cons rfl (Sub.push rfl (Sub.push rfl (Sub.push rfl (Sub.push rfl (Sub.push rfl (Sub.pushSame hd Sub.rfl')))))))
 first | refine .boolOr ?_ | skip
 refine .nil (TQ.then ?_)
 first | refine .cond_dec rfl (fun h1 => ?_) (fun h1 => ?_) | refine .cond rfl (fun h1 => ?_) (fun h1 => ?_)
 ·
  simp at h1
  refine .seq (.region (.v (.assign rfl) (.v (.assign rfl) (.nil (TQ.then (.ret (.then_ret ?_)))))))
  have hno : ¬ Db.loadOk M ws := fun c => by have := c.1; have := c.2.1; omega
  exact .ret results70 (.tmp rfl (.tmp rfl .nil)) none rfl (by simp [hno]) .en
 ·
  simp at h1
  obtain ⟨hlen, h64⟩ : ws.length = 1 + 2 * M.sec.length ∧ (wAt ws 0).toNat ≤ 64 := by omega
  obtain ⟨n, hn⟩ : ∃ n, M.sec.length = n := ⟨_, rfl⟩
  refine .skip (TQ.then (.seq (.draw (H := [.row bs _ _]) (.q 0 (.q 1 (.q 2 (.q 3 (.q 4 (.q 5 (.q 6 (.q 7 (.e 8 (.q 9 (.e 10 (.q 11 .done)))))))))))) (by kernel_rfl) .pk (by kernel_rfl) (by kernel_rfl) (by kernel_rfl) ?_)))
  refine .v rfl (.move rfl) (.v rfl (.move rfl) (.v rfl (.ixSlice1 underlying31 sizeOf23 rfl rfl (by omega)) ?_))
  refine .v rfl (.load isAgg23 rfl .tk (w32s_head (by omega))) ?_
  refine .v rfl (.conv_32_64 underlying23 underlying3 rfl) ?_
  refine .v rfl (.move rfl) (.v rfl (.len underlying31 rfl) ?_)
  refine .v rfl (.sub64 rfl rfl (by omega)) ?_
  refine .eff rfl (fun fu_ li_ hk_ hs_ hl_ => ?_)
  refine .make underlying31 typeInfo23 rfl rfl rfl rfl rfl (by omega) (by simp only [t23]; omega) (by omega) rfl (fun b35 => ?_)
  refine .nil (TS.back hk_ hs_ hl_ .pk ?_)
  refine .v rfl (.build (cs := [_, _, _]) zeroValue98 pl_98_WDb rfl rfl) ?_
  refine .eff rfl (fun fu_ li_ hk_ hs_ hl_ => ?_)
  refine .box (vs := [_, _, _]) rfl rfl rfl (fun b37 => ?_)
  refine .nil (TS.back hk_ hs_ hl_ .pk ?_)
  refine .v rfl (.assign rfl) (.done (TQ.then (.seq ?_)))
  rw [show ((ws.length : Int) - 1).toNat = 2 * n by omega]
  refine .draw (H := [.row b37 _ _]) (.q 0 (.q 1 (.q 2 (.q 3 (.q 4 (.q 5 (.e 6 .done))))))) (by kernel_rfl) .pk (by kernel_rfl) (by kernel_rfl) (by kernel_rfl) ?_
  refine .v rfl (.move rfl) (.v rfl (.nilCheck rfl) (.v rfl (.field fo_98_2_WDb rfl) (.v rfl (.load isAgg31 rfl .tk (by rfl)) ?_)))
  refine .v rfl (.move rfl) (.v rfl (.sliceLo underlying31 sizeOf23 rfl rfl (by omega) (by omega)) ?_)
  refine .eff rfl (fun fu_ li_ hk_ hs_ hl_ => ?_)
  refine .copyRow (k := 2 * n) (us := w32s (ws.drop 1)) (new := w32s (ws.drop 1)) underlying31 sizeOf23 rfl rfl (by show min _ _ = _; omega) .tk (by rw [show 0 + Int.toNat 1 * 1 = 1 by omega, w32s_drop, List.take_of_length_le]; rw [w32s_length, List.length_drop]; omega) (by rw [w32s_length, List.length_drop]; omega) w32s_cells .up (by rw [show List.drop (0 + 2 * n) (List.replicate (2 * n) (Value.int IntKind.u32 0)) = [] from List.drop_eq_nil_of_le (by rw [List.length_replicate]; omega), List.take_zero, List.nil_append, List.append_nil]) (by rw [List.length_replicate]; omega) rfl rfl ?_
  refine .nil (TS.back hk_ hs_ hl_ .pk ?_)
  refine .done (TQ.then (.seq (.seq (.region (.v (.move rfl) (.call call91 (S_pagedb_DB_Pages (n := n) (by omega)) rfl .pk rfl (fun x46 hx46 => ?_)))))))
  refine .v (.move rfl) (.nil (TQ.then (.block (.loop (X := {p : Nat // p ≤ n ∧ ∀ q, q < p → entryOk n (decAt ws q)}) (s0 := [(6, _), (46, _)]) (fun x => [(47, i64 x.1)]) (fun x => []) (fun x => n - x.1) ⟨0, by omega, fun q hq => by omega⟩ .st .pk (fun x => ?_)))))
  refine .seq (.region (.v (.lss rfl rfl) (.nil (TQ.then (.seq ?_)))))
  first | refine .cond_dec rfl (fun h2 => ?_) (fun h2 => ?_) | refine .cond rfl (fun h2 => ?_) (fun h2 => ?_)
  ·
   obtain ⟨p, hp, hq⟩ := x
   simp only at h2 ⊢
   have hpn : p < n := by omega
   refine .skip (TQ.then (.seq (.block (.seq (.region (.v (.move rfl) (.v (.assign rfl) (.nil (TQ.then (.seq (.region (.v (.move rfl) (.v (.nilCheck rfl) (.v (.field fo_98_2_WDb rfl) (.v (.load isAgg31 rfl .tk (by rfl)) ?_)))))))))))))))
   refine .v (.move rfl) (.v (.mul64 rfl rfl (by omega)) ?_)
   refine .v (.sliceLo underlying31 sizeOf23 rfl rfl (by omega) (by omega)) ?_
   refine .v (.toArrPtr underlying155 rfl (by omega)) ?_
   refine .v (.loadAgg (vs := [_, _]) isAgg155 sizeOf155 rfl .tk (by rw [show 0 + (2 * (p : Int)).toNat * 1 = 2 * p by omega]; exact words_two (by omega)) rfl) ?_
   refine .call call92 (S_entry_Decode (a := wAt ws (1 + 2 * p)) (b := wAt ws (2 + 2 * p))) rfl .pk rfl (fun x60 hx60 => ?_)
   refine .v (.move rfl) (.v (.extract rfl rfl) (.v (.extract rfl rfl) (.alloc zeroValue107 rfl rfl (fun b8 => ?_))))
   refine .storeAll (us := [_, _, _, _, _]) sizeOf107 rfl rfl rfl rfl .up rfl ?_
   refine .v (.assign rfl) (.nil (TQ.then (.seq (.region (.v (.move rfl) (.v (.neq rfl rfl) (.v (.move rfl) ?_)))))))
   refine' TL.orG (k := 6) (dj := 65) (d := 71) rfl ?_ ?_ ?_
   rotate_left
   ·
    intro g71 hd
    first | replace g71 := of_decide_eq_false g71 | skip
    refine .want rfl rfl (.v (.move rfl) (.want rfl rfl (.v (.field fo_107_1_WDb rfl) (.want rfl rfl (.v (.load isAgg3 rfl .tk (by rfl)) ?_)))))
    refine .want rfl rfl (.call call55 (S_pagedb_DB_has (n := n) (es := (Db.loadE M ws).ents) (by simp [Db.loadE, hn]) (by omega)) rfl .pk rfl (fun x69 hx69 => ?_))
    refine .want rfl rfl (.v (by first | exact Val.not_dec rfl | exact Val.not rfl) ?_)
    refine .v (.pick_false rfl rfl) (.nil ?_)
    exact .keepE (Sub.cons rfl (Sub.push rfl (Sub.push rfl (Sub.push rfl (Sub.push rfl (Sub.push rfl (Sub.push rfl (Sub.pushSame hd Sub.rfl')))))))) .en
   ·
    intro g71 hd
    refine .skip rfl rfl rfl (.skip rfl rfl rfl (.skip rfl rfl rfl (.skip rfl rfl rfl (.skip rfl rfl rfl (.v (.pick_true rfl rfl) (.nil ?_))))))
    exact .keepE (Sub.cons rfl (Sub.push rfl (Sub.push rfl (Sub.push rfl (Sub.push rfl (Sub.push rfl (Sub.push rfl (Sub.pushSame hd Sub.rfl')))))))) .en
   first | refine .boolOr ?_ | skip
   refine .nil (TQ.then ?_)
   first | refine .cond_dec rfl (fun h3 => ?_) (fun h3 => ?_) | refine .cond rfl (fun h3 => ?_) (fun h3 => ?_)
   ·
    have h6 : ¬ entryOk n (decAt ws p) := fun c => by
     rcases h3 with h3 | h3
     ·
      exact h3 c.1
     ·
      exact h3 ⟨c.2.1, by simp [Db.loadE, hn]; exact c.2.2⟩
    refine .seq (.region (.v (.assign rfl) (.v (.assign rfl) (.nil (TQ.then (.ret (.blk_ret (.then_ret (.then_ret (.blk_ret (.then_ret ?_)))))))))))
    have hno : ¬ Db.loadOk M ws := fun c => by have := c.2.2 p (by omega); rw [hn] at this; exact h6 this
    exact .ret results70 (.tmp rfl (.tmp rfl .nil)) none rfl (by simp [hno]) .en
   ·
    refine .skip (.blk_normal (TQ.then (.region (.v (.add64 rfl rfl (by omega)) ?_))))
    refine .v (.move rfl) (.nil ?_)
    exact .next ⟨p + 1, by omega, fun q hq2 => by
     by_cases hqp : q < p
     ·
      exact hq q hqp
     ·
      obtain rfl : q = p := by omega
      exact ⟨Classical.byContradiction fun c => h3 (.inl c), (by have c : hasE (Db.loadE M ws).ents (decAt ws q).1.own := Classical.byContradiction (fun c => h3 (.inr c)); simpa [hasE, Db.loadE, hn] using c)⟩⟩ (by simp; omega) (by refine Sub.cons (congrArg (fun z => some (i64 z)) (by simp)) ?_; repeat first | exact Sub.nil | refine Sub.cons rfl ?_) .en
  ·
   refine .exit (.then_exit (.then_exit (.blk_hit (TQ.then (.seq (.region (.v (.move rfl) (.v (.assign rfl) (.v (.assign rfl) (.nil (TQ.then (.ret ?_))))))))))))
   obtain ⟨p, hp, hq⟩ := x
   obtain rfl : p = n := by simp at h2; omega
   have hok : Db.loadOk M ws := ⟨hlen, h64, by rw [hn]; exact hq⟩
   refine .ret results70 (.tmp rfl (.tmp rfl .nil)) (some b37) rfl (by simp [hok]) ?_
   rw [← Db.load_words hok]
   exact DbA.fin' (D := Db.loadE M ws) (n := p) (Db.load_ok hok hM) (by simp [Db.loadE, hn]) .pk
end Go.Wd
