/- PROVED HERE: contracts of functions of the program, walked: each returns what the plain model says, for all items that its precondition names. No condition beyond each theorem's own. -/
import Derived.Test.YtkpomphooljgmaaGreatDoorProg
import Derived.Test.YtkpomphooljgmaaGreatDoorModel
import Derived.Test.YtkpomphooljgmaaGreatDoorPk
import Derived.Test.YtkpomphooljgmaaGreatDoorBase4
namespace Go.Wd
open Go Go.Proofs Go.Proofs.Tryz
abbrev MHd (m bs bi : Nat) (sp ip : List Nat) (meter : Int) : List Assn :=
 [.row m [.slice (some ⟨bs, 0, none⟩) sp.length sp.length, .slice (some ⟨bi, 0, none⟩) ip.length ip.length, i64 meter] 94, .row bs (ptrs sp) 158, .row bi (ptrs ip) 158]
abbrev MPg (sp ip : List Nat) (M : Mem) : List Assn := [pagesA 161 sp M.sec, pagesA 161 ip M.ins]
structure MIx where
 bs : Nat
 bi : Nat
 sp : List Nat
 ip : List Nat
def MemA (m : Nat) (M : Mem) : Assn := .ex fun x : MIx => .all (.fact (x.sp.length = M.sec.length ∧ x.ip.length = M.ins.length) :: (MHd m x.bs x.bi x.sp x.ip M.meter ++ MPg x.sp x.ip M))
def atQ (ps : List Nat) (pg : Int) : Option Nat → Prop
 | none => ¬ (0 ≤ pg ∧ pg < ps.length)
 | some b => 0 ≤ pg ∧ ps[pg.toNat]? = some b
theorem MemA.open {m : Nat} {M : Mem} {f : FuncId} {args : Array Value} {pre : List Assn} {X : Type} {q : X → Prop} {ret : X → Value} {post : X → List Assn}
  (h : ∀ bs bi sp ip, sp.length = M.sec.length → ip.length = M.ins.length → Spec prog f args (MHd m bs bi sp ip M.meter ++ MPg sp ip M ++ pre) q ret post) : Spec prog f args (MemA m M :: pre) q ret post :=
 Spec.exL fun x => Spec.allL (Spec.factL fun hl => h x.bs x.bi x.sp x.ip hl.1 hl.2)
theorem MemA.shut {m : Nat} {M : Mem} {bs bi : Nat} {sp ip : List Nat} {rest : List Assn} (h1 : sp.length = M.sec.length) (h2 : ip.length = M.ins.length) : Ent (MHd m bs bi sp ip M.meter ++ MPg sp ip M ++ rest) (MemA m M :: rest) :=
 Ent.trans (Ent.factR (φ := sp.length = M.sec.length ∧ ip.length = M.ins.length) ⟨h1, h2⟩)
  (Ent.trans (Ent.allR (M := .fact (sp.length = M.sec.length ∧ ip.length = M.ins.length) :: (MHd m bs bi sp ip M.meter ++ MPg sp ip M)) (L := rest))
   (Ent.exR (A := fun x : MIx => .all (.fact (x.sp.length = M.sec.length ∧ x.ip.length = M.ins.length) :: (MHd m x.bs x.bi x.sp x.ip M.meter ++ MPg x.sp x.ip M))) ⟨bs, bi, sp, ip⟩))

theorem fo_39_0_WMem : FieldOff prog 39 0 0 := FieldOff.of 4 1 underlying39 rfl sizeOf4 rfl
theorem fo_39_1_WMem : FieldOff prog 39 1 1 := FieldOff.of 3 1 underlying39 rfl sizeOf3 rfl
theorem fo_94_0_WMem : FieldOff prog 94 0 0 := FieldOff.of 91 1 underlying94 rfl sizeOf91 rfl
theorem fo_94_1_WMem : FieldOff prog 94 1 1 := FieldOff.of 91 1 underlying94 rfl sizeOf91 rfl
set_option maxHeartbeats 400000 in
theorem S_mem_Memory_at {m bs bi : Nat} {sp ip : List Nat} {meter : Int} {sec : Bool} {pg : Int} : Spec prog 89 [ptr m, .agg #[.bool sec, i64 pg]].toArray [.row m [.slice (some ⟨bs, 0, none⟩) sp.length sp.length, .slice (some ⟨bi, 0, none⟩) ip.length ip.length, i64 meter] 94, .row bs (ptrs sp) 158, .row bi (ptrs ip) 158] (fun x : Option Nat => atQ (bif sec then sp else ip) pg x) (fun x => optr x) (fun x => [.row m [.slice (some ⟨bs, 0, none⟩) sp.length sp.length, .slice (some ⟨bi, 0, none⟩) ip.length ip.length, i64 meter] 94, .row bs (ptrs sp) 158, .row bi (ptrs ip) 158]) := by
 refine Spec.body func89 rfl ntmps89 rfl (fun σ R => ?_)
 refine .seq (.region (.box (vs := [_, _]) rfl rfl rfl (fun b3 => ?_)))
 refine .v (.assign rfl) (.nil (TQ.then (.seq (.region (.v (.move rfl) (.v (.nilCheck rfl) (.v (.field fo_94_1_WMem rfl) (.v (.load isAgg91 rfl .tk (by rfl)) ?_))))))))
 refine .v (.assign rfl) (.nil (TQ.then (.seq (.seq (.region (.v (.field fo_39_0_WMem rfl) (.v (.load isAgg4 rfl .tk (by rfl)) ?_)))))))
 refine .nil (TQ.then ?_)
 first | refine .cond_dec rfl (fun h1 => ?_) (fun h1 => ?_) | refine .cond rfl (fun h1 => ?_) (fun h1 => ?_)
 ·
  subst h1
  refine .region (.v (.move rfl) (.v (.nilCheck rfl) (.v (.field fo_94_0_WMem rfl) (.v (.load isAgg91 rfl .tk (by rfl)) ?_))))
  refine .v (.assign rfl) (.nil (TQ.then (.seq (.seq (.region (.v (.field fo_39_1_WMem rfl) (.v (.load isAgg3 rfl .tk (by rfl)) ?_)))))))
  refine .v (.lss rfl rfl) (.v (.move rfl) ?_)
  refine' TL.orG (k := 6) (dj := 19) (d := 25) rfl ?_ ?_ ?_
  rotate_left
  ·
   intro g25 hd
   first | replace g25 := of_decide_eq_false g25 | skip
   refine .want rfl rfl (.v (.field fo_39_1_WMem rfl) (.want rfl rfl (.v (.load isAgg3 rfl .tk (by rfl)) ?_)))
   refine .want rfl rfl (.v (.move rfl) (.want rfl rfl (.v (.len underlying91 rfl) ?_)))
   refine .want rfl rfl (.v (.geq rfl rfl) (.v (.pick_false rfl rfl) (.nil ?_)))
   exact .keep (Sub.cons rfl (Sub.push rfl (Sub.push rfl (Sub.push rfl (Sub.push rfl (Sub.push rfl (Sub.push rfl (Sub.pushSame hd Sub.rfl'))))))))
  ·
   intro g25 hd
   refine .skip rfl rfl rfl (.skip rfl rfl rfl (.skip rfl rfl rfl (.skip rfl rfl rfl (.skip rfl rfl rfl (.v (.pick_true rfl rfl) (.nil ?_))))))
   exact .keep (Sub.cons rfl (Sub.push rfl (Sub.push rfl (Sub.push rfl (Sub.push rfl (Sub.push rfl (Sub.push rfl (Sub.pushSame hd Sub.rfl'))))))))
  first | refine .boolOr ?_ | skip
  refine .nil (TQ.then ?_)
  first | refine .cond_dec rfl (fun h2 => ?_) (fun h2 => ?_) | refine .cond rfl (fun h2 => ?_) (fun h2 => ?_)
  ·
   refine .seq (.region (.v (.assign rfl) (.nil (TQ.then (.ret (.then_ret ?_))))))
   exact .ret results89 (.tmp rfl .nil) none rfl (by simp only [atQ, cond_true, cond_false]; omega) .en
  ·
   refine .skip (TQ.then (.seq ?_))
   obtain ⟨b, hb⟩ : ∃ b, sp[pg.toNat]? = some b := ⟨_, List.getElem?_eq_getElem (show pg.toNat < sp.length by omega)⟩
   refine .region (.v (.move rfl) (.v (.field fo_39_1_WMem rfl) (.v (.load isAgg3 rfl .tk (by rfl)) ?_)))
   refine .v (.ixSlice1 underlying91 sizeOf158 rfl rfl (by omega)) ?_
   refine .v (.load isAgg158 rfl .tk (ptrs_get hb)) ?_
   refine .v (.assign rfl) (.nil (TQ.then (.ret ?_)))
   exact .ret results89 (.tmp rfl .nil) (some b) rfl ⟨by omega, hb⟩ .en
 ·
  subst h1
  refine .skip (TQ.then (.seq (.seq (.region (.v (.field fo_39_1_WMem rfl) (.v (.load isAgg3 rfl .tk (by rfl)) ?_))))))
  refine .v (.lss rfl rfl) (.v (.move rfl) ?_)
  refine' TL.orG (k := 6) (dj := 19) (d := 25) rfl ?_ ?_ ?_
  rotate_left
  ·
   intro g25 hd
   first | replace g25 := of_decide_eq_false g25 | skip
   refine .want rfl rfl (.v (.field fo_39_1_WMem rfl) (.want rfl rfl (.v (.load isAgg3 rfl .tk (by rfl)) ?_)))
   refine .want rfl rfl (.v (.move rfl) (.want rfl rfl (.v (.len underlying91 rfl) ?_)))
   refine .want rfl rfl (.v (.geq rfl rfl) (.v (.pick_false rfl rfl) (.nil ?_)))
   exact .keep (Sub.cons rfl (Sub.push rfl (Sub.push rfl (Sub.push rfl (Sub.push rfl (Sub.push rfl (Sub.push rfl (Sub.pushSame hd Sub.rfl'))))))))
  ·
   intro g25 hd
   refine .skip rfl rfl rfl (.skip rfl rfl rfl (.skip rfl rfl rfl (.skip rfl rfl rfl (.skip rfl rfl rfl (.v (.pick_true rfl rfl) (.nil ?_))))))
   exact .keep (Sub.cons rfl (Sub.push rfl (Sub.push rfl (Sub.push rfl (Sub.push rfl (Sub.push rfl (Sub.push rfl (Sub.pushSame hd Sub.rfl'))))))))
  first | refine .boolOr ?_ | skip
  refine .nil (TQ.then ?_)
  first | refine .cond_dec rfl (fun h2 => ?_) (fun h2 => ?_) | refine .cond rfl (fun h2 => ?_) (fun h2 => ?_)
  ·
   refine .seq (.region (.v (.assign rfl) (.nil (TQ.then (.ret (.then_ret ?_))))))
   exact .ret results89 (.tmp rfl .nil) none rfl (by simp only [atQ, cond_true, cond_false]; omega) .en
  ·
   refine .skip (TQ.then (.seq ?_))
   obtain ⟨b, hb⟩ : ∃ b, ip[pg.toNat]? = some b := ⟨_, List.getElem?_eq_getElem (show pg.toNat < ip.length by omega)⟩
   refine .region (.v (.move rfl) (.v (.field fo_39_1_WMem rfl) (.v (.load isAgg3 rfl .tk (by rfl)) ?_)))
   refine .v (.ixSlice1 underlying91 sizeOf158 rfl rfl (by omega)) ?_
   refine .v (.load isAgg158 rfl .tk (ptrs_get hb)) ?_
   refine .v (.assign rfl) (.nil (TQ.then (.ret ?_)))
   exact .ret results89 (.tmp rfl .nil) (some b) rfl ⟨by omega, hb⟩ .en

/-- where a word lies, or the error -/
def wordQ (ps : List Nat) (pg off : Int) : Option (Nat × Nat) × Int → Prop
 | (none, e) => (e = 5 ∧ ¬ (0 ≤ pg ∧ pg < ps.length)) ∨ (e = 70 ∧ (0 ≤ pg ∧ pg < ps.length) ∧ ¬ (0 ≤ off ∧ off < 1024))
 | (some (b, k), e) => e = 0 ∧ 0 ≤ pg ∧ ps[pg.toNat]? = some b ∧ 0 ≤ off ∧ off < 1024 ∧ k = off.toNat
abbrev wptr (x : Option (Nat × Nat)) : Value := .pointer (x.map fun b => ⟨b.1, b.2, none⟩)
abbrev meterOf (meter : Int) (e : Int) : Int := if e = 0 then IntKind.i64.wrap (meter + 1) else meter

theorem fo_94_2_WMem : FieldOff prog 94 2 2 := FieldOff.of 2 1 underlying94 rfl sizeOf2 rfl
set_option maxHeartbeats 400000 in
theorem S_mem_Memory_word {m bs bi : Nat} {sp ip : List Nat} {meter : Int} {sec : Bool} {pg : Int} {off : Int} : Spec prog 72 [ptr m, .agg #[.bool sec, i64 pg], i64 off].toArray [.row m [.slice (some ⟨bs, 0, none⟩) sp.length sp.length, .slice (some ⟨bi, 0, none⟩) ip.length ip.length, i64 meter] 94, .row bs (ptrs sp) 158, .row bi (ptrs ip) 158] (fun x : Option (Nat × Nat) × Int => wordQ (bif sec then sp else ip) pg off x) (fun x => .tuple #[wptr x.1, i64 x.2]) (fun x => [.row m [.slice (some ⟨bs, 0, none⟩) sp.length sp.length, .slice (some ⟨bi, 0, none⟩) ip.length ip.length, i64 (meterOf meter x.2)] 94, .row bs (ptrs sp) 158, .row bi (ptrs ip) 158]) := by
 refine Spec.body func72 rfl ntmps72 rfl (fun σ R => ?_)
 refine .seq (.region (.box (vs := [_, _]) rfl rfl rfl (fun b4 => ?_)))
 refine .v (.assign rfl) (.v (.assign rfl) (.nil (TQ.then (.seq (.region (.v (.move rfl) (.v (.loadAgg (vs := [_, _]) isAgg39 sizeOf39 rfl .tk (by rfl) (by rfl)) ?_)))))))
 refine .call call89 (S_mem_Memory_at) rfl .pk rfl (fun x11 hx11 => ?_)
 refine .v (.assign rfl) (.nil (TQ.then (.seq (.seq (.region (.v (.move rfl) (.v (.eqlNil underlying158 rfl rfl) ?_)))))))
 refine .nil (TQ.then ?_)
 first | refine .cond_dec rfl (fun h1 => ?_) (fun h1 => ?_) | refine .cond rfl (fun h1 => ?_) (fun h1 => ?_)
 ·
  obtain rfl : x11 = none := by simpa using h1
  refine .seq (.region (.v (.assign rfl) (.v (.assign rfl) (.nil (TQ.then (.ret (.then_ret ?_)))))))
  exact .ret results72 (.tmp rfl (.tmp rfl .nil)) (none, 5) rfl (.inl ⟨rfl, hx11⟩) .en
 ·
  obtain ⟨b, rfl⟩ : ∃ b, x11 = some b := by cases x11; simp at h1; exact ⟨_, rfl⟩
  refine .skip (TQ.then (.seq (.seq (.region (.v (.move rfl) (.v (.lss rfl rfl) (.v (.move rfl) ?_)))))))
  refine' TL.orG (k := 3) (dj := 16) (d := 19) rfl ?_ ?_ ?_
  rotate_left
  ·
   intro g19 hd
   first | replace g19 := of_decide_eq_false g19 | skip
   refine .want rfl rfl (.v (.move rfl) (.want rfl rfl (.v (.geq rfl rfl) (.v (.pick_false rfl rfl) (.nil ?_)))))
   exact .keep (Sub.cons rfl (Sub.push rfl (Sub.push rfl (Sub.push rfl (Sub.pushSame hd Sub.rfl')))))
  ·
   intro g19 hd
   refine .skip rfl rfl rfl (.skip rfl rfl rfl (.v (.pick_true rfl rfl) (.nil ?_)))
   exact .keep (Sub.cons rfl (Sub.push rfl (Sub.push rfl (Sub.push rfl (Sub.pushSame hd Sub.rfl')))))
  first | refine .boolOr ?_ | skip
  refine .nil (TQ.then ?_)
  first | refine .cond_dec rfl (fun h2 => ?_) (fun h2 => ?_) | refine .cond rfl (fun h2 => ?_) (fun h2 => ?_)
  ·
   refine .seq (.region (.v (.assign rfl) (.v (.assign rfl) (.nil (TQ.then (.ret (.then_ret ?_)))))))
   obtain ⟨hp, hb⟩ := hx11
   have hl := (List.getElem?_eq_some_iff.1 hb).1
   exact .ret results72 (.tmp rfl (.tmp rfl .nil)) (none, 70) rfl (.inr ⟨rfl, by omega, by omega⟩) .en
  ·
   obtain ⟨hp, hb⟩ := hx11
   have hl := (List.getElem?_eq_some_iff.1 hb).1
   refine .skip (TQ.then (.seq (.region (.v (.move rfl) (.v (.nilCheck rfl) (.v (.field fo_94_2_WMem rfl) (.v (.load isAgg2 rfl .tk (by rfl)) ?_)))))))
   refine .v (.add rfl rfl) ?_
   refine .v (.nilCheck rfl) (.v (.field fo_94_2_WMem rfl) (.store sizeOf2 rfl rfl rfl .up (by rfl) ?_))
   refine .nil (TQ.then (.seq (.region (.v (.move rfl) (.v (.move rfl) (.v (.nilCheck rfl) (.v (.ixArr1 underlying161 sizeOf23 rfl rfl (by omega)) ?_)))))))
   refine .v (.assign rfl) (.v (.assign rfl) (.nil (TQ.then (.ret ?_))))
   exact .ret results72 (.tmp rfl (.tmp rfl .nil)) (some (b, 0 + off.toNat), 0) rfl ⟨rfl, hp, hb, by omega, by omega, by omega⟩ .en

abbrev selP (sec : Bool) (sp ip : List Nat) : List Nat := bif sec then sp else ip
theorem selP_len {M : Mem} {sp ip : List Nat} (hsp : sp.length = M.sec.length) (hip : ip.length = M.ins.length) (sec : Bool) : (bif sec then sp else ip).length = (M.pgs sec).length := by cases sec <;> simp [Mem.pgs, hsp, hip]
def MRest (sp ip : List Nat) (M : Mem) (sec : Bool) (pg : Int) : Assn :=
 .sep (holeA 161 (selP sec sp ip) (M.pgs sec) pg.toNat) (pagesA 161 (selP (!sec) sp ip) (M.pgs (!sec)))
theorem MPg_row {sp ip : List Nat} {M : Mem} {sec : Bool} {pg : Int} {b : Nat} {g : List W} (hb : (selP sec sp ip)[pg.toNat]? = some b) (hg : (M.pgs sec)[pg.toNat]? = some g) :
  Ent (MPg sp ip M) [.fact (g.length = 1024), .row b (w32s g) 161, MRest sp ip M sec pg] := by
 cases sec with
 | true =>
  refine Ent.trans (Ent.sub (M := [pagesA 161 sp M.sec]) (.cons .here .nil) (pagesA_split hb hg)) ?_
  exact Ent.cons (Ent.cons Ent.sepR)
 | false =>
  refine Ent.trans (Ent.sub (M := [pagesA 161 ip M.ins]) (.cons (.there .here) .nil) (pagesA_split hb hg)) ?_
  exact Ent.cons (Ent.cons Ent.sepR)
theorem MPg_join {sp ip : List Nat} {M : Mem} {sec : Bool} {pg : Int} {b : Nat} {g : List W} (hb : (selP sec sp ip)[pg.toNat]? = some b) (hl : pg.toNat < (M.pgs sec).length) (hg : g.length = 1024) :
  Ent [.row b (w32s g) 161, MRest sp ip M sec pg] (MPg sp ip (M.setPage sec pg g)) := by
 refine Ent.trans (Ent.cons Ent.sepLR) ?_
 cases sec with
 | true => exact Ent.sub (M := [.row b (w32s g) 161, holeA 161 sp M.sec pg.toNat]) (.cons .here (.cons .here .nil)) (pagesA_join hb hl hg)
 | false =>
  refine Ent.trans (Ent.sub (M := [.row b (w32s g) 161, holeA 161 ip M.ins pg.toNat]) (.cons .here (.cons .here .nil)) (pagesA_join hb hl hg)) ?_
  exact Ent.perm (M := [pagesA 161 sp M.sec]) (.cons (.there .here) .nil)
theorem MemA.fin {L rest : List Assn} {m bs bi : Nat} {sp ip : List Nat} {M : Mem} {meter : Int} (h1 : sp.length = M.sec.length) (h2 : ip.length = M.ins.length) (hm : meter = M.meter) (hp : Pick L (MHd m bs bi sp ip meter ++ MPg sp ip M) rest) : Ent L [MemA m M] := by
 subst hm
 exact Ent.trans (Ent.pick hp) (MemA.shut (rest := []) h1 h2)
theorem MemA.fin' {L rest : List Assn} {m bs bi : Nat} {sp ip : List Nat} {M : Mem} {meter : Int} (h1 : sp.length = M.sec.length) (h2 : ip.length = M.ins.length) (hm : meter = M.meter) (hp : Pick L (MHd m bs bi sp ip meter ++ MPg sp ip M) rest) : Ent L (MemA m M :: rest) := by
 subst hm
 exact Ent.trans (Ent.perm hp) (MemA.shut h1 h2)

set_option maxHeartbeats 400000 in
theorem S_mem_Memory_Write {m : Nat} {M : Mem} {sec : Bool} {pg : Int} {off : Int} {v : W} : Spec prog 35 [ptr m, .agg #[.bool sec, i64 pg], i64 off, w32 v].toArray [MemA m M] (fun _ : Unit => True) (fun _ => i64 (M.write sec pg off v).1) (fun _ => [MemA m (M.write sec pg off v).2]) := by
 refine MemA.open (fun bs bi sp ip hsp hip => ?_)
 refine Spec.body func35 rfl ntmps35 rfl (fun σ R => ?_)
 refine .seq (.region (.box (vs := [_, _]) rfl rfl rfl (fun b5 => ?_)))
 refine .v (.assign rfl) (.nil (TQ.then (.seq (.region (.v (.move rfl) (.v (.loadAgg (vs := [_, _]) isAgg39 sizeOf39 rfl .tk (by rfl) (by rfl)) ?_))))))
 refine .v (.move rfl) (.call call72 (S_mem_Memory_word) rfl .pk rfl (fun x15 hx15 => ?_))
 refine .v (.move rfl) (.v (.extract rfl rfl) (.v (.extract rfl rfl) (.v (.assign rfl) (.v (.assign rfl) (.nil (TQ.then (.seq (.seq (.region (.v (.move rfl) (.v (.eql rfl rfl) (.nil (TQ.then ?_)))))))))))))
 first | refine .cond_dec rfl (fun h1 => ?_) (fun h1 => ?_) | refine .cond rfl (fun h1 => ?_) (fun h1 => ?_)
 ·
  obtain ⟨_ | ⟨b, k⟩, e⟩ := x15
  ·
   exfalso; simp only at h1; subst h1; rcases hx15 with ⟨h, _⟩ | ⟨h, _⟩ <;> cases h
  obtain ⟨rfl, hp, hb, ho0, ho, rfl⟩ := hx15
  have he : M.errW sec pg off = 0 := errW_zero.2 ⟨⟨hp, by have := (List.getElem?_eq_some_iff.1 hb).1; have := selP_len hsp hip sec; omega⟩, ho0, ho⟩
  obtain ⟨g, hg⟩ : ∃ g, (M.pgs sec)[pg.toNat]? = some g := ⟨_, List.getElem?_eq_getElem (by have := (List.getElem?_eq_some_iff.1 hb).1; have := selP_len hsp hip sec; omega)⟩
  refine .ent (Ent.sub (M := MPg sp ip M) .pk (MPg_row hb hg)) ?_
  refine .fact .here (fun hgl => ?_)
  refine .region (.v (.move rfl) (.v (.move rfl) (.v (.nilCheck rfl) ?_)))
  refine .store sizeOf23 rfl rfl rfl .up (by simp only [w32s_length]; exact Nat.ble_eq_true_of_le (by omega)) ?_
  refine .nil (TQ.then (.seq (.region (.v (.move rfl) (.v (.assign rfl) (.nil (TQ.then (.ret ?_))))))))
  rw [show (w32s g).set off.toNat (w32 v) = w32s (g.set off.toNat v) from w32s_set]
  refine .ent (Ent.sub .pk (MPg_join (M := M.tick 1) hb (by have := (List.getElem?_eq_some_iff.1 hg).1; exact this) (by simp [hgl]))) ?_
  have e2 : M.write sec pg off v = (0, (M.tick 1).setPage sec pg (g.set off.toNat v)) := by simp only [Mem.write, he, if_true, Mem.put, page_get (M := M.tick 1) hg]
  have hl := @setPage_len (M.tick 1) sec pg (g.set off.toNat v)
  exact .ret results35 (.tmp rfl .nil) () (by rw [e2]; rfl) trivial (by rw [e2]; exact MemA.fin (by rw [hl.1]; exact hsp) (by rw [hl.2.1]; exact hip) hl.2.2.symm .pk)
 ·
  refine .skip (TQ.then (.seq (.region (.v (.move rfl) (.v (.assign rfl) (.nil (TQ.then (.ret ?_))))))))
  have e2 : M.write sec pg off v = (x15.2, M) := by
   obtain ⟨_ | ⟨b, k⟩, e⟩ := x15
   ·
    rcases hx15 with ⟨rfl, h⟩ | ⟨rfl, h, h'⟩
    ·
     have : ¬ M.has sec pg := by unfold Mem.has; have := selP_len hsp hip sec; omega
     simp [Mem.write, Mem.errW, this]
    ·
     have : M.has sec pg := by unfold Mem.has; have := selP_len hsp hip sec; omega
     simp [Mem.write, Mem.errW, this, h']
   ·
    exact absurd hx15.1 h1
  exact .ret results35 (.tmp rfl .nil) () (by rw [e2]; rfl) trivial (by rw [e2]; exact MemA.fin hsp hip (if_neg h1) .pk)

theorem atQ_none {M : Mem} {sp ip : List Nat} {sec : Bool} {pg : Int} (hsp : sp.length = M.sec.length) (hip : ip.length = M.ins.length) (h : atQ (bif sec then sp else ip) pg none) : ¬ M.has sec pg := by
 unfold Mem.has; have := selP_len hsp hip sec; simp only [atQ] at h; omega
theorem atQ_some {M : Mem} {sp ip : List Nat} {sec : Bool} {pg : Int} {b : Nat} (hsp : sp.length = M.sec.length) (hip : ip.length = M.ins.length) (h : atQ (bif sec then sp else ip) pg (some b)) :
  M.has sec pg ∧ (selP sec sp ip)[pg.toNat]? = some b ∧ ∃ g, (M.pgs sec)[pg.toNat]? = some g := by
 obtain ⟨h1, h2⟩ := h
 have := (List.getElem?_eq_some_iff.1 h2).1
 have := selP_len hsp hip sec
 exact ⟨⟨h1, by omega⟩, h2, ⟨_, List.getElem?_eq_getElem (by omega)⟩⟩
theorem wordQ_err {M : Mem} {sp ip : List Nat} {sec : Bool} {pg off : Int} {x : Option (Nat × Nat) × Int} (hsp : sp.length = M.sec.length) (hip : ip.length = M.ins.length) (h : wordQ (bif sec then sp else ip) pg off x) : x.2 = M.errW sec pg off := by
 have hl := selP_len hsp hip sec
 obtain ⟨_ | ⟨b, k⟩, e⟩ := x
 ·
  rcases h with ⟨rfl, h⟩ | ⟨rfl, h, h'⟩
  ·
   rw [errW_page (by unfold Mem.has; omega)]
  ·
   rw [errW_off (by unfold Mem.has; omega) h']
 ·
  obtain ⟨rfl, hp, hb, h1, h2, _⟩ := h
  have := (List.getElem?_eq_some_iff.1 hb).1
  exact (errW_zero.2 ⟨by unfold Mem.has; omega, h1, h2⟩).symm
theorem wordQ_ok {M : Mem} {sp ip : List Nat} {sec : Bool} {pg off : Int} {x : Option (Nat × Nat) × Int} (hsp : sp.length = M.sec.length) (hip : ip.length = M.ins.length) (h : wordQ (bif sec then sp else ip) pg off x) (h0 : x.2 = 0) :
  ∃ b g, x = (some (b, off.toNat), 0) ∧ M.errW sec pg off = 0 ∧ (selP sec sp ip)[pg.toNat]? = some b ∧ (M.pgs sec)[pg.toNat]? = some g ∧ 0 ≤ off ∧ off < 1024 := by
 have he := wordQ_err hsp hip h
 have hl := selP_len hsp hip sec
 obtain ⟨_ | ⟨b, k⟩, e⟩ := x
 ·
  simp only at h0; subst h0; rcases h with ⟨h, _⟩ | ⟨h, _⟩ <;> cases h
 ·
  obtain ⟨rfl, hp, hb, h1, h2, rfl⟩ := h
  have := (List.getElem?_eq_some_iff.1 hb).1
  exact ⟨b, _, rfl, he.symm, hb, List.getElem?_eq_getElem (by omega), h1, h2⟩
/-- a page's row, back among the pages: nothing has turned -/
theorem MPg_back {sp ip : List Nat} {M : Mem} {sec : Bool} {pg : Int} {b : Nat} {g : List W} (hb : (selP sec sp ip)[pg.toNat]? = some b) (hg : (M.pgs sec)[pg.toNat]? = some g) (hgl : g.length = 1024) :
  Ent [.row b (w32s g) 161, MRest sp ip M sec pg] (MPg sp ip M) := by
 have h := MPg_join (sp := sp) (ip := ip) hb (List.getElem?_eq_some_iff.1 hg).1 hgl
 have e : MPg sp ip (M.setPage sec pg g) = MPg sp ip M := by
  cases sec <;> (simp only [Mem.pgs] at hg; simp only [MPg, Mem.setPage]; rw [set_same hg])
 rwa [e] at h

set_option maxHeartbeats 400000 in
theorem S_mem_Memory_Peek {m : Nat} {M : Mem} {sec : Bool} {pg : Int} {off : Int} : Spec prog 47 [ptr m, .agg #[.bool sec, i64 pg], i64 off].toArray [MemA m M] (fun _ : Unit => True) (fun _ => w32 (M.peek sec pg off)) (fun _ => [MemA m M]) := by
 refine MemA.open (fun bs bi sp ip hsp hip => ?_)
 refine Spec.body func47 rfl ntmps47 rfl (fun σ R => ?_)
 refine .seq (.region (.box (vs := [_, _]) rfl rfl rfl (fun b4 => ?_)))
 refine .v (.assign (v := w32 0#32) rfl) (.nil (TQ.then (.seq (.region (.v (.move rfl) (.v (.loadAgg (vs := [_, _]) isAgg39 sizeOf39 rfl .tk (by rfl) (by rfl)) ?_))))))
 refine .call call89 (S_mem_Memory_at) rfl .pk rfl (fun x10 hx10 => ?_)
 refine .v (.assign rfl) (.nil (TQ.then (.seq (.seq (.region (.v (.move rfl) (.v (.eqlNil underlying158 rfl rfl) ?_)))))))
 refine .v (.move rfl) ?_
 refine' TL.orG (k := 3) (dj := 13) (d := 16) rfl ?_ ?_ ?_
 rotate_left
 ·
  intro g16 hd
  first | replace g16 := of_decide_eq_false g16 | skip
  refine .want rfl rfl (.v (.move rfl) (.want rfl rfl (.v (.lss rfl rfl) (.v (.pick_false rfl rfl) (.nil ?_)))))
  exact .keep (Sub.cons rfl (Sub.push rfl (Sub.push rfl (Sub.push rfl (Sub.pushSame hd Sub.rfl')))))
 ·
  intro g16 hd
  refine .skip rfl rfl rfl (.skip rfl rfl rfl (.v (.pick_true rfl rfl) (.nil ?_)))
  exact .keep (Sub.cons rfl (Sub.push rfl (Sub.push rfl (Sub.push rfl (Sub.pushSame hd Sub.rfl')))))
 first | refine .boolOr ?_ | skip
 refine .v (.move rfl) ?_
 refine' TL.orG (k := 3) (dj := 17) (d := 20) rfl ?_ ?_ ?_
 rotate_left
 ·
  intro g20 hd
  first | replace g20 := of_decide_eq_false g20 | skip
  refine .want rfl rfl (.v (.move rfl) (.want rfl rfl (.v (.geq rfl rfl) (.v (.pick_false rfl rfl) (.nil ?_)))))
  exact .keep (Sub.cons rfl (Sub.push rfl (Sub.push rfl (Sub.push rfl (Sub.pushSame hd Sub.rfl')))))
 ·
  intro g20 hd
  refine .skip rfl rfl rfl (.skip rfl rfl rfl (.v (.pick_true rfl rfl) (.nil ?_)))
  exact .keep (Sub.cons rfl (Sub.push rfl (Sub.push rfl (Sub.push rfl (Sub.pushSame hd Sub.rfl')))))
 first | refine .boolOr ?_ | skip
 refine .nil (TQ.then ?_)
 first | refine .cond_dec rfl (fun h1 => ?_) (fun h1 => ?_) | refine .cond rfl (fun h1 => ?_) (fun h1 => ?_)
 ·
  refine .seq (.region (.v (.assign (v := w32 0#32) rfl) (.nil (TQ.then (.ret (.then_ret ?_))))))
  have e := peek_err (show M.errW sec pg off ≠ 0 from fun h => by
   obtain ⟨h2, h3, h4⟩ := errW_zero.1 h
   cases x10 with
   | none => exact atQ_none hsp hip hx10 h2
   | some b => simp at h1; omega)
  exact .ret results47 (.tmp rfl .nil) () (by rw [e]; rfl) trivial (MemA.fin hsp hip rfl .pk)
 ·
  obtain ⟨b, rfl⟩ : ∃ b, x10 = some b := by cases x10; simp at h1; exact ⟨_, rfl⟩
  simp at h1
  obtain ⟨hh, hb, g, hg⟩ := atQ_some hsp hip hx10
  refine .skip (TQ.then (.seq (.ent (Ent.sub (M := MPg sp ip M) .pk (MPg_row hb hg)) ?_)))
  refine .fact .here (fun hgl => ?_)
  refine .region (.v (.move rfl) (.v (.move rfl) (.v (.nilCheck rfl) (.v (.ixArr1 underlying161 sizeOf23 rfl rfl (by omega)) ?_))))
  refine .v (.load isAgg23 rfl .tk (w32s_get (by rw [Nat.zero_add]; exact word_get hgl (by omega)))) ?_
  refine .v (.assign rfl) (.nil (TQ.then (.ret (.ent (Ent.sub .pk (MPg_back hb hg hgl)) ?_))))
  have e := peek_ok (errW_zero.2 (⟨hh, by omega, by omega⟩ : M.has sec pg ∧ 0 ≤ off ∧ off < 1024)) hg
  exact .ret results47 (.tmp rfl .nil) () (by rw [e]; rfl) trivial (MemA.fin hsp hip rfl .pk)

set_option maxHeartbeats 400000 in
theorem S_mem_Memory_Read {m : Nat} {M : Mem} {sec : Bool} {pg : Int} {off : Int} : Spec prog 135 [ptr m, .agg #[.bool sec, i64 pg], i64 off].toArray [MemA m M] (fun _ : Unit => True) (fun _ => .tuple #[w32 (M.read sec pg off).1, i64 (M.read sec pg off).2.1]) (fun _ => [MemA m (M.read sec pg off).2.2]) := by
 refine MemA.open (fun bs bi sp ip hsp hip => ?_)
 refine Spec.body func135 rfl ntmps135 rfl (fun σ R => ?_)
 refine .seq (.region (.box (vs := [_, _]) rfl rfl rfl (fun b4 => ?_)))
 refine .v (.assign (v := w32 0#32) rfl) (.v (.assign rfl) (.nil (TQ.then (.seq (.region (.v (.move rfl) (.v (.loadAgg (vs := [_, _]) isAgg39 sizeOf39 rfl .tk (by rfl) (by rfl)) ?_)))))))
 refine .v (.move rfl) (.call call72 (S_mem_Memory_word) rfl .pk rfl (fun x14 hx14 => ?_))
 refine .v (.move rfl) (.v (.extract rfl rfl) (.v (.extract rfl rfl) (.v (.assign rfl) (.v (.assign rfl) (.nil (TQ.then (.seq (.seq (.region (.v (.move rfl) (.v (.neq rfl rfl) (.nil (TQ.then ?_)))))))))))))
 first | refine .cond_dec rfl (fun h1 => ?_) (fun h1 => ?_) | refine .cond rfl (fun h1 => ?_) (fun h1 => ?_)
 ·
  refine .seq (.region (.v (.move rfl) (.v (.assign (v := w32 0#32) rfl) (.v (.assign rfl) (.nil (TQ.then (.ret (.then_ret ?_))))))))
  have he := wordQ_err hsp hip hx14
  rw [he] at h1
  have e : M.read sec pg off = (0, M.errW sec pg off, M) := if_neg h1
  exact .ret results135 (.tmp rfl (.tmp rfl .nil)) () (by rw [e, ← he]; rfl) trivial (by rw [e]; exact MemA.fin (meter := meterOf M.meter x14.2) hsp hip (by rw [he]; exact if_neg h1) .pk)
 ·
  obtain ⟨b, g, rfl, he, hb, hg, ho1, ho2⟩ := wordQ_ok hsp hip hx14 (by omega)
  have e : M.read sec pg off = (g[off.toNat]?.getD 0, 0, M.tick 1) := by unfold Mem.read Mem.get; rw [if_pos he, page_get hg]
  refine .skip (TQ.then (.seq (.ent (Ent.sub (M := MPg sp ip M) .pk (MPg_row hb hg)) ?_)))
  refine .fact .here (fun hgl => ?_)
  refine .region (.v (.move rfl) (.v (.nilCheck rfl) (.v (.load isAgg23 rfl .tk (w32s_get (word_get hgl ⟨ho1, ho2⟩))) ?_)))
  refine .v (.assign rfl) (.v (.assign rfl) (.nil (TQ.then (.ret (.ent (Ent.sub .pk (MPg_back hb hg hgl)) ?_)))))
  exact .ret results135 (.tmp rfl (.tmp rfl .nil)) () (by rw [e]; rfl) trivial (by rw [e]; exact MemA.fin (M := M.tick 1) hsp hip rfl .pk)

set_option maxHeartbeats 400000 in
theorem S_mem_Memory_Has {m : Nat} {M : Mem} {sec : Bool} {pg : Int} : Spec prog 176 [ptr m, .agg #[.bool sec, i64 pg]].toArray [MemA m M] (fun _ : Unit => True) (fun _ => .bool (decide (M.has sec pg))) (fun _ => [MemA m M]) := by
 refine MemA.open (fun bs bi sp ip hsp hip => ?_)
 refine Spec.body func176 rfl ntmps176 rfl (fun σ R => ?_)
 refine .seq (.region (.box (vs := [_, _]) rfl rfl rfl (fun b3 => ?_)))
 refine .v (.assign rfl) (.nil (TQ.then (.seq (.region (.v (.move rfl) (.v (.loadAgg (vs := [_, _]) isAgg39 sizeOf39 rfl .tk (by rfl) (by rfl)) ?_))))))
 refine .call call89 (S_mem_Memory_at) rfl .pk rfl (fun x7 hx7 => ?_)
 refine .v (.neqNil underlying158 rfl rfl) ?_
 refine .v (.assign rfl) (.nil (TQ.then (.ret ?_)))
 have e : decide (M.has sec pg) = !(x7.map fun b => (⟨b, 0, none⟩ : Addr)).isNone := by
  cases x7 with
  | none => simpa using atQ_none hsp hip hx7
  | some b => simpa using (atQ_some hsp hip hx7).1
 exact .ret results176 (.tmp rfl .nil) () (by rw [e]; rfl) trivial (MemA.fin hsp hip rfl .pk)

set_option maxHeartbeats 400000 in
theorem S_mem_Memory_Secure {m : Nat} {M : Mem} : Spec prog 46 [ptr m].toArray [MemA m M] (fun _ : Unit => True) (fun _ => i64 M.sec.length) (fun _ => [MemA m M]) := by
 refine MemA.open (fun bs bi sp ip hsp hip => ?_)
 refine Spec.body func46 rfl ntmps46 rfl (fun σ R => ?_)
 refine .seq (.region (.v (.assign rfl) (.nil (TQ.then (.seq (.region (.v (.move rfl) (.v (.nilCheck rfl) (.v (.field fo_94_0_WMem rfl) (.v (.load isAgg91 rfl .tk (by rfl)) ?_))))))))))
 refine .v (.len underlying91 rfl) ?_
 refine .v (.assign rfl) (.nil (TQ.then (.ret ?_)))
 exact .ret results46 (.tmp rfl .nil) () (by rw [← hsp]; rfl) trivial (MemA.fin hsp hip rfl .pk)

set_option maxHeartbeats 400000 in
theorem S_mem_Memory_Insecure {m : Nat} {M : Mem} : Spec prog 45 [ptr m].toArray [MemA m M] (fun _ : Unit => True) (fun _ => i64 M.ins.length) (fun _ => [MemA m M]) := by
 refine MemA.open (fun bs bi sp ip hsp hip => ?_)
 refine Spec.body func45 rfl ntmps45 rfl (fun σ R => ?_)
 refine .seq (.region (.v (.assign rfl) (.nil (TQ.then (.seq (.region (.v (.move rfl) (.v (.nilCheck rfl) (.v (.field fo_94_1_WMem rfl) (.v (.load isAgg91 rfl .tk (by rfl)) ?_))))))))))
 refine .v (.len underlying91 rfl) ?_
 refine .v (.assign rfl) (.nil (TQ.then (.ret ?_)))
 exact .ret results45 (.tmp rfl .nil) () (by rw [← hip]; rfl) trivial (MemA.fin hsp hip rfl .pk)

theorem zpage_cells : zeroCells161 = (w32s zpage).toArray := by kernel_rfl
theorem pagesA_snoc {T p : Nat} {g : List W} (hg : g.length = 1024) : ∀ {ps : List Nat} {gs : List (List W)}, ps.length = gs.length → Ent [.row p (w32s g) T, pagesA T ps gs] [pagesA T (ps ++ [p]) (gs ++ [g])]
 | [], [], _ => by
  refine Ent.trans (Ent.factR hg) ?_
  exact Ent.trans Ent.sepR Ent.sepR
 | q :: ps, h :: gs, hl => by
  refine Ent.trans (Ent.cons Ent.sepLR) ?_
  refine Ent.trans (Ent.perm (M := [.sep (.fact (h.length = 1024)) (.row q (w32s h) T)]) (.cons (.there .here) .nil)) ?_
  refine Ent.trans (Ent.cons (pagesA_snoc hg (by simpa using hl))) ?_
  exact Ent.sepR
 | [], _ :: _, h => by simp at h
 | _ :: _, [], h => by simp at h
theorem ptrs_fill {ps : List Nat} {k b : Nat} (h : ps.length < k) : (ptrs ps ++ List.replicate (k - ps.length) (Value.pointer none)).set (0 + ps.length) (ptr b) = ptrs (ps ++ [b]) ++ List.replicate (k - (ps ++ [b]).length) (Value.pointer none) := by
 obtain ⟨j, hj⟩ : ∃ j, k - ps.length = j + 1 := ⟨k - ps.length - 1, by omega⟩
 have h2 : k - (ps ++ [b]).length = j := by simp; omega
 rw [hj, h2, List.replicate_succ, Nat.zero_add, List.set_append_right _ _ (by simp [ptrs])]
 simp [ptrs]

set_option maxHeartbeats 400000 in
theorem S_mem_made {k : Nat} (hk : k ≤ 64) : Spec prog 49 [i64 k].toArray [] (fun x : Nat × List Nat => x.2.length = k) (fun x => .slice (some ⟨x.1, 0, none⟩) k k) (fun x => [.row x.1 (ptrs x.2) 158, pagesA 161 x.2 (List.replicate k zpage)]) := by
 refine Spec.body func49 rfl ntmps49 rfl (fun σ R => ?_)
 refine .seq (.region (.v (.assign rfl) (.nil (TQ.then (.seq (.region (.v (.move rfl) (.make underlying91 typeInfo158 rfl rfl rfl rfl rfl (by omega) (by simp only [t158]; omega) (by omega) rfl (fun b6 => ?_)))))))))
 refine .v (.assign rfl) (.nil (TQ.then (.seq (.seq ?_))))
 have e0 : List.replicate (Int.toNat k) (Value.pointer none) = ptrs [] ++ List.replicate (k - ([] : List Nat).length) (.pointer none) := rfl
 rw [e0]
 refine .ent (Ent.trans Ent.empR (Ent.perm (M := [_, .emp]) (.cons (.there .here) (.cons .here .nil)))) ?_
 refine .region (.v (.move rfl) (.v (.len underlying91 rfl) ?_))
 refine .v (.move rfl) (.nil (TQ.then (.block ?_)))
 refine .loop (X := {ps : List Nat // ps.length ≤ k}) (s0 := [(3, _), (8, _)]) (fun x => [(9, i64 x.1.length)]) (fun x => [.row b6 (ptrs x.1 ++ List.replicate (k - x.1.length) (.pointer none)) 158, pagesA 161 x.1 (List.replicate x.1.length zpage)]) (fun x => k - x.1.length) ⟨[], by simp⟩ .st (by simp only [ptrs, List.map_nil, List.nil_append, List.length_nil, Nat.sub_zero]; exact .cons .here (.cons .here .nil)) (fun x => ?_)
 refine .seq (.region (.v (.lss rfl rfl) (.nil (TQ.then (.seq ?_)))))
 first | refine .cond_dec rfl (fun h1 => ?_) (fun h1 => ?_) | refine .cond rfl (fun h1 => ?_) (fun h1 => ?_)
 ·
  refine .skip (TQ.then (.seq (.block (.seq (.region (.v (.move rfl) (.v (.assign rfl) (.nil (TQ.then (.region (.v (.move rfl) (.v (.move rfl) (.v (.buildArr (cs := w32s zpage) zeroValue161 underlying161 sizeOf23 rfl (congrArg some zpage_cells)) ?_)))))))))))))
  refine .box (vs := w32s zpage) rfl rfl rfl (fun b15 => ?_)
  refine .v (.ixSlice1 underlying91 sizeOf158 rfl rfl (by omega)) ?_
  refine .store sizeOf158 rfl rfl rfl .up (Nat.ble_eq_true_of_le (by simp [ptrs]; omega)) ?_
  refine .nil (.blk_normal (TQ.then (.region (.v (.add64 rfl rfl (by omega)) ?_))))
  refine .v (.move rfl) (.nil ?_)
  have hlt : x.1.length < k := by have : ((k : Int).toNat : Int) = k := rfl; omega
  rw [show (ptrs x.1 ++ List.replicate (k - x.1.length) (Value.pointer none)).set (0 + (x.1.length : Int).toNat) (ptr b15) = ptrs (x.1 ++ [b15]) ++ List.replicate (k - (x.1 ++ [b15]).length) (Value.pointer none) from ptrs_fill hlt]
  refine .ent (Ent.sub (M := [.row b15 (w32s zpage) 161, pagesA 161 x.1 (List.replicate x.1.length zpage)]) .pk (pagesA_snoc zpage_len (by simp))) ?_
  rw [show List.replicate x.1.length zpage ++ [zpage] = List.replicate (x.1 ++ [b15]).length zpage from by simp [List.replicate_succ']]
  exact .next ⟨x.1 ++ [b15], by simp; omega⟩ (by simp; omega) (by refine Sub.cons (congrArg (fun z => some (i64 z)) (by simp)) ?_; repeat first | exact Sub.nil | refine Sub.cons rfl ?_) .en
 ·
  refine .exit (.then_exit (.then_exit (.blk_hit (TQ.then (.seq (.region (.v (.move rfl) (.v (.assign rfl) (.nil (TQ.then (.ret ?_)))))))))))
  obtain ⟨ps, hps⟩ := x
  have hk2 : ps.length = k := by have : ((k : Int).toNat : Int) = k := rfl; simp only at h1; omega
  subst hk2
  rw [show ptrs ps ++ List.replicate (ps.length - ps.length) (Value.pointer none) = ptrs ps by simp]
  exact .ret results49 (.tmp rfl .nil) (b6, ps) (rfl) rfl .en

def wholeQ (ps : List Nat) (pg : Int) : Option Nat × Int → Prop
 | (none, e) => e = 5 ∧ atQ ps pg none
 | (some b, e) => e = 0 ∧ atQ ps pg (some b)
abbrev meterW (meter times e : Int) : Int := if e = 0 then IntKind.i64.wrap (meter + IntKind.i64.wrap (times * 1024)) else meter

set_option maxHeartbeats 400000 in
theorem S_mem_Memory_whole {m bs bi : Nat} {sp ip : List Nat} {meter : Int} {sec : Bool} {pg : Int} {times : Int} : Spec prog 90 [ptr m, .agg #[.bool sec, i64 pg], i64 times].toArray [.row m [.slice (some ⟨bs, 0, none⟩) sp.length sp.length, .slice (some ⟨bi, 0, none⟩) ip.length ip.length, i64 meter] 94, .row bs (ptrs sp) 158, .row bi (ptrs ip) 158] (fun x : Option Nat × Int => wholeQ (bif sec then sp else ip) pg x) (fun x => .tuple #[optr x.1, i64 x.2]) (fun x => [.row m [.slice (some ⟨bs, 0, none⟩) sp.length sp.length, .slice (some ⟨bi, 0, none⟩) ip.length ip.length, i64 (meterW meter times x.2)] 94, .row bs (ptrs sp) 158, .row bi (ptrs ip) 158]) := by
 refine Spec.body func90 rfl ntmps90 rfl (fun σ R => ?_)
 refine .seq (.region (.box (vs := [_, _]) rfl rfl rfl (fun b4 => ?_)))
 refine .v (.assign rfl) (.v (.assign rfl) (.nil (TQ.then (.seq (.region (.v (.move rfl) (.v (.loadAgg (vs := [_, _]) isAgg39 sizeOf39 rfl .tk (by rfl) (by rfl)) ?_)))))))
 refine .call call89 (S_mem_Memory_at) rfl .pk rfl (fun x11 hx11 => ?_)
 refine .v (.assign rfl) (.nil (TQ.then (.seq (.seq (.region (.v (.move rfl) (.v (.eqlNil underlying158 rfl rfl) ?_)))))))
 refine .nil (TQ.then ?_)
 first | refine .cond_dec rfl (fun h1 => ?_) (fun h1 => ?_) | refine .cond rfl (fun h1 => ?_) (fun h1 => ?_)
 ·
  obtain rfl : x11 = none := by simpa using h1
  refine .seq (.region (.v (.assign rfl) (.v (.assign rfl) (.nil (TQ.then (.ret (.then_ret ?_)))))))
  exact .ret results90 (.tmp rfl (.tmp rfl .nil)) (none, 5) (rfl) ⟨rfl, hx11⟩ .en
 ·
  obtain ⟨b, rfl⟩ : ∃ b, x11 = some b := by cases x11; simp at h1; exact ⟨_, rfl⟩
  refine .skip (TQ.then (.seq (.region (.v (.move rfl) (.v (.nilCheck rfl) (.v (.field fo_94_2_WMem rfl) (.v (.load isAgg2 rfl .tk (by rfl)) ?_)))))))
  refine .v (.move rfl) (.v (.mul rfl rfl) ?_)
  refine .v (.add rfl rfl) ?_
  refine .v (.nilCheck rfl) (.v (.field fo_94_2_WMem rfl) (.store sizeOf2 rfl rfl rfl .up (by rfl) ?_))
  refine .nil (TQ.then (.seq (.region (.v (.move rfl) (.v (.assign rfl) (.v (.assign rfl) (.nil (TQ.then (.ret ?_)))))))))
  exact .ret results90 (.tmp rfl (.tmp rfl .nil)) (some b, 0) (rfl) ⟨rfl, hx11⟩ .en

set_option maxHeartbeats 400000 in
theorem S_mem_Memory_Zero {m : Nat} {M : Mem} {sec : Bool} {pg : Int} : Spec prog 50 [ptr m, .agg #[.bool sec, i64 pg]].toArray [MemA m M] (fun _ : Unit => True) (fun _ => i64 (M.zero sec pg).1) (fun _ => [MemA m (M.zero sec pg).2]) := by
 refine MemA.open (fun bs bi sp ip hsp hip => ?_)
 refine Spec.body func50 rfl ntmps50 rfl (fun σ R => ?_)
 refine .seq (.region (.box (vs := [_, _]) rfl rfl rfl (fun b3 => ?_)))
 refine .v (.assign rfl) (.nil (TQ.then (.seq (.region (.v (.move rfl) (.v (.loadAgg (vs := [_, _]) isAgg39 sizeOf39 rfl .tk (by rfl) (by rfl)) ?_))))))
 refine .call call90 (S_mem_Memory_whole) rfl .pk rfl (fun x10 hx10 => ?_)
 refine .v (.move rfl) (.v (.extract rfl rfl) (.v (.extract rfl rfl) (.v (.assign rfl) (.v (.assign rfl) (.nil (TQ.then (.seq (.seq (.region (.v (.move rfl) (.v (.eql rfl rfl) (.nil (TQ.then ?_)))))))))))))
 first | refine .cond_dec rfl (fun h1 => ?_) (fun h1 => ?_) | refine .cond rfl (fun h1 => ?_) (fun h1 => ?_)
 ·
  obtain ⟨_ | b, e⟩ := x10
  ·
   exfalso; simp only at h1; rw [h1] at hx10; cases hx10.1
  obtain ⟨rfl, hq⟩ := hx10
  obtain ⟨hh, hb, g, hg⟩ := atQ_some hsp hip hq
  have e2 : M.zero sec pg = (0, (M.tick 1024).setPage sec pg zpage) := if_pos hh
  refine .ent (Ent.sub (M := MPg sp ip M) .pk (MPg_row hb hg)) ?_
  refine .fact .here (fun hgl => ?_)
  refine .region (.v (.move rfl) (.v (.nilCheck rfl) (.v (.sliceArr underlying161 sizeOf23 rfl) ?_)))
  refine .clearAll (vs := w32s g) (k := 1024) underlying31 zeroValue23 rfl rfl rfl (w32s_length.trans hgl) .up ?_
  refine .nil (TQ.then (.seq (.region (.v (.move rfl) (.v (.assign rfl) (.nil (TQ.then (.ret ?_))))))))
  rw [show List.replicate 1024 (Value.int .u32 0) = w32s zpage from (by unfold w32s zpage; rw [List.map_replicate]; rfl)]
  refine .ent (Ent.sub .pk (MPg_join (M := M.tick 1024) hb (by have := (List.getElem?_eq_some_iff.1 hg).1; exact this) zpage_len)) ?_
  have hl := @setPage_len (M.tick 1024) sec pg zpage
  exact .ret results50 (.tmp rfl .nil) () (by rw [e2]; rfl) trivial (by rw [e2]; exact MemA.fin (meter := IntKind.i64.wrap (M.meter + 1024)) (by rw [hl.1]; exact hsp) (by rw [hl.2.1]; exact hip) hl.2.2.symm .pk)
 ·
  refine .skip (TQ.then (.seq (.region (.v (.move rfl) (.v (.assign rfl) (.nil (TQ.then (.ret ?_))))))))
  obtain ⟨_ | b, e⟩ := x10
  ·
   obtain ⟨rfl, hq⟩ := hx10
   have e2 : M.zero sec pg = (5, M) := if_neg (atQ_none hsp hip hq)
   exact .ret results50 (.tmp rfl .nil) () (by rw [e2]; rfl) trivial (by rw [e2]; exact MemA.fin (meter := M.meter) hsp hip rfl .pk)
  ·
   exact absurd hx10.1 h1

theorem pl_94_WMem : Places prog 94 [(0, 1), (1, 1), (2, 1)] := ⟨_, underlying94, fun w => by simp [sizeOf2, sizeOf91]⟩
set_option maxHeartbeats 400000 in
theorem S_mem_New {a b : Nat} (ha : 1 ≤ a ∧ a ≤ 64) (hb : 1 ≤ b ∧ b ≤ 64) : Spec prog 14 [i64 a, i64 b].toArray [] (fun m : Nat => True) (fun m => .tuple #[ptr m, i64 0]) (fun m => [MemA m (Mem.new a b)]) := by
 refine Spec.body func14 rfl ntmps14 rfl (fun σ R => ?_)
 refine .seq (.region (.v (.assign rfl) (.v (.assign rfl) (.nil (TQ.then (.seq (.seq (.region (.v (.move rfl) (.v (.lss rfl rfl) (.v (.move rfl) ?_)))))))))))
 refine' TL.orG (k := 3) (dj := 8) (d := 11) rfl ?_ ?_ ?_
 rotate_left
 ·
  intro g11 hd
  first | replace g11 := of_decide_eq_false g11 | skip
  refine .want rfl rfl (.v (.move rfl) (.want rfl rfl (.v (.gtr rfl rfl) (.v (.pick_false rfl rfl) (.nil ?_)))))
  exact .keep (Sub.cons rfl (Sub.push rfl (Sub.push rfl (Sub.push rfl (Sub.pushSame hd Sub.rfl')))))
 ·
  intro g11 hd
  refine .skip rfl rfl rfl (.skip rfl rfl rfl (.v (.pick_true rfl rfl) (.nil ?_)))
  exact .keep (Sub.cons rfl (Sub.push rfl (Sub.push rfl (Sub.push rfl (Sub.pushSame hd Sub.rfl')))))
 first | refine .boolOr ?_ | skip
 refine .v (.move rfl) ?_
 refine' TL.orG (k := 3) (dj := 12) (d := 15) rfl ?_ ?_ ?_
 rotate_left
 ·
  intro g15 hd
  first | replace g15 := of_decide_eq_false g15 | skip
  refine .want rfl rfl (.v (.move rfl) (.want rfl rfl (.v (.lss rfl rfl) (.v (.pick_false rfl rfl) (.nil ?_)))))
  exact .keep (Sub.cons rfl (Sub.push rfl (Sub.push rfl (Sub.push rfl (Sub.pushSame hd Sub.rfl')))))
 ·
  intro g15 hd
  refine .skip rfl rfl rfl (.skip rfl rfl rfl (.v (.pick_true rfl rfl) (.nil ?_)))
  exact .keep (Sub.cons rfl (Sub.push rfl (Sub.push rfl (Sub.push rfl (Sub.pushSame hd Sub.rfl')))))
 first | refine .boolOr ?_ | skip
 refine .v (.move rfl) ?_
 refine' TL.orG (k := 3) (dj := 16) (d := 19) rfl ?_ ?_ ?_
 rotate_left
 ·
  intro g19 hd
  first | replace g19 := of_decide_eq_false g19 | skip
  refine .want rfl rfl (.v (.move rfl) (.want rfl rfl (.v (.gtr rfl rfl) (.v (.pick_false rfl rfl) (.nil ?_)))))
  exact .keep (Sub.cons rfl (Sub.push rfl (Sub.push rfl (Sub.push rfl (Sub.pushSame hd Sub.rfl')))))
 ·
  intro g19 hd
  refine .skip rfl rfl rfl (.skip rfl rfl rfl (.v (.pick_true rfl rfl) (.nil ?_)))
  exact .keep (Sub.cons rfl (Sub.push rfl (Sub.push rfl (Sub.push rfl (Sub.pushSame hd Sub.rfl')))))
 first | refine .boolOr ?_ | skip
 refine .nil (TQ.then ?_)
 first | refine .cond_dec rfl (fun h1 => ?_) (fun h1 => ?_) | refine .cond rfl (fun h1 => ?_) (fun h1 => ?_)
 ·
  exfalso; omega
 ·
  refine .skip (TQ.then (.seq (.region (.v (.move rfl) (.call call49 (S_mem_made (by omega)) rfl .pk rfl (fun x21 hx21 => ?_))))))
  refine .v (.move rfl) (.call call49 (S_mem_made (by omega)) rfl .pk rfl (fun x23 hx23 => ?_))
  refine .v (.build (cs := [_, _, _]) zeroValue94 pl_94_WMem rfl rfl) ?_
  refine .box (vs := [_, _, _]) rfl rfl rfl (fun b25 => ?_)
  refine .v (.assign rfl) (.v (.assign rfl) (.nil (TQ.then (.ret (.ent (L' := MHd b25 x21.1 x23.1 x21.2 x23.2 0 ++ MPg x21.2 x23.2 (Mem.new a b)) ?_ ?_)))))
  ·
   have e1 := hx21
   have e2 := hx23
   simp only [MHd, e1, e2]
   exact Ent.pick .pk
  exact .ret results14 (.tmp rfl (.tmp rfl .nil)) b25 (rfl) trivial (MemA.fin (sp := x21.2) (ip := x23.2) (by simp [Mem.new, hx21]) (by simp [Mem.new, hx23]) rfl .pk)
end Go.Wd
