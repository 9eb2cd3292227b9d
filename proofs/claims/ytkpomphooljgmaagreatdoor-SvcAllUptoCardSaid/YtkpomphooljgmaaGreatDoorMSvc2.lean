/- PROVED HERE: the plain law: what the functions compute, with no program in sight. No condition beyond each theorem's own. -/
import Derived.Test.YtkpomphooljgmaaGreatDoorMSvc
namespace Go.Wd
open Go
theorem Val.loadAggEx {P : Program} {H : List Assn} {s : Slots} {α : Type} {x : Operand} {T b off T' k : Nat} {l : α → List Value} {vs : List Value} {H' : List Assn} (ht : ∀ w, (isAgg T).run P w = .ok true w) (hz : ∀ w, (sizeOf T).run P w = .ok k w) (hx : ev s x = some (.pointer (some ⟨b, off, none⟩)))
    (hm : Take H (.ex fun y => .row b (l y) T') H') (hc : ∀ y, ((l y).drop off).take k = vs) (hk : vs.length = k) : Val P H s (.load T x) (.agg vs.toArray) := fun n a w hs hw o ho => by
  obtain ⟨F, y, hy⟩ := hw.get hm
  exact Val.loadAgg (H := [.row b (l y) T']) ht hz hx .here (hc y) hk n a w hs ⟨F, F, fun _ => False, hy, rfl, fun _ _ h => h, by funext z; simp⟩ o ho
def pgV (D : Db) (sp : Int) (r : W) (t : Int) : Int := if ownsD D sp (r.toNat : Int) t then (r.toNat : Int) else -1
theorem pgV_1 {D : Db} {sp t : Int} {r : W} (h : (D.ents.length : Int) ≤ (r.toNat : Int)) : pgV D sp r t = -1 := if_neg (fun c => by have := c.1.2; omega)
theorem pgV_2 {D : Db} {sp t : Int} {r : W} (h : (D.get (r.toNat : Int)).1.ty ≠ t ∨ (D.get (r.toNat : Int)).1.own ≠ sp) : pgV D sp r t = -1 := if_neg (fun c => by
  have := owns_get.2 c
  rcases h with h | h
  · exact h this.1.2
  · exact h this.2)
theorem pgV_3 {D : Db} {sp t : Int} {r : W} (h0 : ¬ (D.ents.length : Int) ≤ (r.toNat : Int)) (h : ¬ ((D.get (r.toNat : Int)).1.ty ≠ t ∨ (D.get (r.toNat : Int)).1.own ≠ sp)) : pgV D sp r t = (r.toNat : Int) := if_pos (by
  have hp : D.has (r.toNat : Int) := ⟨by omega, by omega⟩
  exact owns_get.1 ⟨⟨by rw [get_of hp], Classical.byContradiction fun c => h (.inl c)⟩, Classical.byContradiction fun c => h (.inr c)⟩)
theorem pgV_neg {D : Db} {sp t : Int} {r : W} (h : pgV D sp r t < 0) : ¬ ownsD D sp (r.toNat : Int) t := fun c => by unfold pgV at h; rw [if_pos c] at h; omega
theorem pgV_pos {D : Db} {sp t : Int} {r : W} (h : ¬ pgV D sp r t < 0) : ownsD D sp (r.toNat : Int) t ∧ pgV D sp r t = (r.toNat : Int) := by
  unfold pgV at h ⊢
  by_cases c : ownsD D sp (r.toNat : Int) t
  · rw [if_pos c]; exact ⟨c, rfl⟩
  · rw [if_neg c] at h; exact absurd (by decide) h
theorem cost_yes {n : W} (h : n = 1#32 ∨ n = 2#32 ∨ n = 3#32 ∨ n = 4#32 ∨ n = 5#32) : i64 (if 1 ≤ n.toNat ∧ n.toNat ≤ 5 then 64 else 1) = tup [Value.int .i64 64] := by
  rcases h with rfl | rfl | rfl | rfl | rfl <;> rfl
theorem cost_no {n : W} (h : ¬ (n = 1#32 ∨ n = 2#32 ∨ n = 3#32 ∨ n = 4#32 ∨ n = 5#32)) : i64 (if 1 ≤ n.toNat ∧ n.toNat ≤ 5 then 64 else 1) = tup [Value.int .i64 1] := by
  rw [if_neg]; rfl
  rintro ⟨h1, h2⟩
  apply h
  have : n.toNat = 1 ∨ n.toNat = 2 ∨ n.toNat = 3 ∨ n.toNat = 4 ∨ n.toNat = 5 := by omega
  rcases this with h | h | h | h | h
  · exact .inl (BitVec.eq_of_toNat_eq h)
  · exact .inr (.inl (BitVec.eq_of_toNat_eq h))
  · exact .inr (.inr (.inl (BitVec.eq_of_toNat_eq h)))
  · exact .inr (.inr (.inr (.inl (BitVec.eq_of_toNat_eq h))))
  · exact .inr (.inr (.inr (.inr (BitVec.eq_of_toNat_eq h))))
/-! the calls -/
structure Res where
  f : File
  code : W
  db : Db
def attR (K : S8) (D : Db) (sp : Int) (F : File) : Res := ⟨F.lay (macW K.ws ((meas D sp).ws ++ F.data.ws)), 0#32, D⟩
def selfR (D : Db) (sp : Int) (F : File) : Res := ⟨F.lay (meas D sp), 0#32, D⟩
def vA (F : File) (i : Nat) : W := F.r1 + 4#32 * BitVec.ofInt 32 (i : Int)
def vT (D : Db) (tb : Int) (F : File) (i : Nat) : Tr := transM D.mem tb (vA F i) 0
def vW (D : Db) (tb : Int) (F : File) (i : Nat) : W := D.mem.peek (vT D tb F i).sec (vT D tb F i).page (vT D tb F i).off
def vL (D : Db) (tb : Int) (F : File) : List W := (List.range 24).map (vW D tb F)
theorem vL_len {D : Db} {tb : Int} {F : File} : (vL D tb F).length = 24 := by simp [vL]
theorem vL_get {D : Db} {tb : Int} {F : File} {i : Nat} (h : i < (vL D tb F).length) : (vL D tb F)[i] = vW D tb F i := by simp [vL]
def s8At (l : List W) (k : Nat) : S8 := ⟨wAt l k, wAt l (k + 1), wAt l (k + 2), wAt l (k + 3), wAt l (k + 4), wAt l (k + 5), wAt l (k + 6), wAt l (k + 7)⟩
theorem s8At_cells {l : List W} {k : Nat} (h : k + 8 ≤ l.length) : ((w32s l).drop k).take 8 = [w32 (s8At l k).a, w32 (s8At l k).b, w32 (s8At l k).c, w32 (s8At l k).d, w32 (s8At l k).e, w32 (s8At l k).f, w32 (s8At l k).g, w32 (s8At l k).h] := by
  have e : (l.drop k).take 8 = (s8At l k).ws := by
    apply List.ext_getElem
    · simp; omega
    · intro i h1 h2
      have hi : i < 8 := by simp at h2; omega
      have hg : ((l.drop k).take 8)[i] = wAt l (k + i) := by
        unfold wAt; rw [List.getElem_take, List.getElem_drop, List.getElem?_eq_getElem (by omega)]; rfl
      rw [hg]
      have : i = 0 ∨ i = 1 ∨ i = 2 ∨ i = 3 ∨ i = 4 ∨ i = 5 ∨ i = 6 ∨ i = 7 := by omega
      rcases this with rfl | rfl | rfl | rfl | rfl | rfl | rfl | rfl <;> rfl
  have : ((w32s l).drop k).take 8 = w32s ((l.drop k).take 8) := by simp [w32s, List.map_take, List.map_drop]
  rw [this, e]; rfl
def vBad (D : Db) (tb : Int) (F : File) : Prop := ∃ i, i < 24 ∧ (vT D tb F i).err ≠ 0
def vOk (K : S8) (D : Db) (tb : Int) (F : File) : Prop := macW K.ws ((s8At (vL D tb F) 0).ws ++ (s8At (vL D tb F) 8).ws) = s8At (vL D tb F) 16
instance (K : S8) (D : Db) (tb : Int) (F : File) : Decidable (vOk K D tb F) := by unfold vOk; infer_instance
open Classical in
noncomputable def verR (K : S8) (D : Db) (tb : Int) (F : File) : Res := if vBad D tb F then ⟨F, 20#32, D⟩ else ⟨{ F with r1 := if vOk K D tb F then 1#32 else 0#32 }, 0#32, D⟩
theorem verR_bad {K : S8} {D : Db} {tb : Int} {F : File} (h : vBad D tb F) : verR K D tb F = ⟨F, 20#32, D⟩ := if_pos h
theorem verR_ok {K : S8} {D : Db} {tb : Int} {F : File} (h : ¬ vBad D tb F) (h2 : vOk K D tb F) : verR K D tb F = ⟨{ F with r1 := 1#32 }, 0#32, D⟩ := by unfold verR; rw [if_neg h, if_pos h2]
theorem verR_no {K : S8} {D : Db} {tb : Int} {F : File} (h : ¬ vBad D tb F) (h2 : ¬ vOk K D tb F) : verR K D tb F = ⟨{ F with r1 := 0#32 }, 0#32, D⟩ := by unfold verR; rw [if_neg h, if_neg h2]
abbrev pg (F : File) : Int := (F.r1.toNat : Int)
def mapR (D : Db) (sp : Int) (F : File) : Res :=
  if ¬ ownsD D sp (pg F) 6 then ⟨F, 18#32, D⟩ else if (parseM F.r2).2 ≠ 0 then ⟨F, 6#32, D⟩ else
  if slotD D sp (parseM F.r2).1.va = 140 then ⟨F, 7#32, D⟩ else if slotD D sp (parseM F.r2).1.va ≠ 0 then ⟨F, 21#32, D⟩ else
  ⟨F, 0#32, (putD (D.turn (pg F) 5).2 sp (parseM F.r2).1.va ⟨true, pg F, (parseM F.r2).1.wr, (parseM F.r2).1.ex⟩).2⟩
def unmapR (D : Db) (sp : Int) (F : File) : Res :=
  if ¬ ownsD D sp (pg F) 5 then ⟨F, 19#32, D⟩ else if (parseM F.r2).2 ≠ 0 then ⟨F, 6#32, D⟩ else
  if (atD D sp (parseM F.r2).1.va).2 = 141 then ⟨F, 21#32, D⟩ else if (atD D sp (parseM F.r2).1.va).2 ≠ 0 ∨ (atD D sp (parseM F.r2).1.va).1 ≠ ⟨true, pg F, (parseM F.r2).1.wr, (parseM F.r2).1.ex⟩ then ⟨F, 7#32, D⟩ else
  ⟨F, 0#32, ((cutD D sp (parseM F.r2).1.va).2.turn (pg F) 6).2⟩
def growR (D : Db) (sp tb : Int) (F : File) : Res :=
  if ¬ ownsD D sp (pg F) 6 then ⟨F, 18#32, D⟩ else if 255 < F.r2.toNat then ⟨F, 16#32, D⟩ else if D.pk tb (F.r2.toNat : Int) ≠ 0#32 then ⟨F, 7#32, D⟩ else
  ⟨F, 0#32, (addTableD (D.turn (pg F) 4).2 sp (F.r2.toNat : Int) (pg F)).2⟩
def randR (S : List (List W)) (D : Db) (sp : Int) (F : File) : Res :=
  ⟨{ F with r1 := drawM S ((D.pk sp 1).toNat : Int) ((D.pk sp 2).toNat : Int) }, 0#32, if (D.pk sp 2).toNat < 4096 then D.wr sp 2 (D.pk sp 2 + 1#32) else D⟩
section
variable {D : Db} {sp tb : Int} {F : File}
theorem mapR_1 (h : ¬ ownsD D sp (pg F) 6) : mapR D sp F = ⟨F, 18#32, D⟩ := if_pos h
theorem mapR_2 (h : ownsD D sp (pg F) 6) (h2 : (parseM F.r2).2 ≠ 0) : mapR D sp F = ⟨F, 6#32, D⟩ := by rw [mapR, if_neg (fun c => c h), if_pos h2]
theorem mapR_3 (h : ownsD D sp (pg F) 6) (h2 : ¬ (parseM F.r2).2 ≠ 0) (h3 : slotD D sp (parseM F.r2).1.va = 140) : mapR D sp F = ⟨F, 7#32, D⟩ := by rw [mapR, if_neg (fun c => c h), if_neg h2, if_pos h3]
theorem mapR_4 (h : ownsD D sp (pg F) 6) (h2 : ¬ (parseM F.r2).2 ≠ 0) (h3 : ¬ slotD D sp (parseM F.r2).1.va = 140) (h4 : slotD D sp (parseM F.r2).1.va ≠ 0) : mapR D sp F = ⟨F, 21#32, D⟩ := by rw [mapR, if_neg (fun c => c h), if_neg h2, if_neg h3, if_pos h4]
theorem mapR_5 (h : ownsD D sp (pg F) 6) (h2 : ¬ (parseM F.r2).2 ≠ 0) (h4 : slotD D sp (parseM F.r2).1.va = 0) : mapR D sp F = ⟨F, 0#32, (putD (D.turn (pg F) 5).2 sp (parseM F.r2).1.va ⟨true, pg F, (parseM F.r2).1.wr, (parseM F.r2).1.ex⟩).2⟩ := by
  rw [mapR, if_neg (fun c => c h), if_neg h2, if_neg (by rw [h4]; decide), if_neg (fun c => c h4)]
theorem unmapR_1 (h : ¬ ownsD D sp (pg F) 5) : unmapR D sp F = ⟨F, 19#32, D⟩ := if_pos h
theorem unmapR_2 (h : ownsD D sp (pg F) 5) (h2 : (parseM F.r2).2 ≠ 0) : unmapR D sp F = ⟨F, 6#32, D⟩ := by rw [unmapR, if_neg (fun c => c h), if_pos h2]
theorem unmapR_3 (h : ownsD D sp (pg F) 5) (h2 : ¬ (parseM F.r2).2 ≠ 0) (h3 : (atD D sp (parseM F.r2).1.va).2 = 141) : unmapR D sp F = ⟨F, 21#32, D⟩ := by rw [unmapR, if_neg (fun c => c h), if_neg h2, if_pos h3]
theorem unmapR_4 (h : ownsD D sp (pg F) 5) (h2 : ¬ (parseM F.r2).2 ≠ 0) (h3 : ¬ (atD D sp (parseM F.r2).1.va).2 = 141) (h4 : (atD D sp (parseM F.r2).1.va).2 ≠ 0 ∨ (atD D sp (parseM F.r2).1.va).1 ≠ ⟨true, pg F, (parseM F.r2).1.wr, (parseM F.r2).1.ex⟩) : unmapR D sp F = ⟨F, 7#32, D⟩ := by rw [unmapR, if_neg (fun c => c h), if_neg h2, if_neg h3, if_pos h4]
theorem unmapR_5 (h : ownsD D sp (pg F) 5) (h2 : ¬ (parseM F.r2).2 ≠ 0) (h3 : ¬ (atD D sp (parseM F.r2).1.va).2 = 141) (h4 : ¬ ((atD D sp (parseM F.r2).1.va).2 ≠ 0 ∨ (atD D sp (parseM F.r2).1.va).1 ≠ ⟨true, pg F, (parseM F.r2).1.wr, (parseM F.r2).1.ex⟩)) : unmapR D sp F = ⟨F, 0#32, ((cutD D sp (parseM F.r2).1.va).2.turn (pg F) 6).2⟩ := by rw [unmapR, if_neg (fun c => c h), if_neg h2, if_neg h3, if_neg h4]
theorem growR_1 (h : ¬ ownsD D sp (pg F) 6) : growR D sp tb F = ⟨F, 18#32, D⟩ := if_pos h
theorem growR_2 (h : ownsD D sp (pg F) 6) (h2 : 255 < F.r2.toNat) : growR D sp tb F = ⟨F, 16#32, D⟩ := by rw [growR, if_neg (fun c => c h), if_pos h2]
theorem growR_3 (h : ownsD D sp (pg F) 6) (h2 : ¬ 255 < F.r2.toNat) (h3 : D.pk tb (F.r2.toNat : Int) ≠ 0#32) : growR D sp tb F = ⟨F, 7#32, D⟩ := by rw [growR, if_neg (fun c => c h), if_neg h2, if_pos h3]
theorem growR_4 (h : ownsD D sp (pg F) 6) (h2 : ¬ 255 < F.r2.toNat) (h3 : ¬ D.pk tb (F.r2.toNat : Int) ≠ 0#32) : growR D sp tb F = ⟨F, 0#32, (addTableD (D.turn (pg F) 4).2 sp (F.r2.toNat : Int) (pg F)).2⟩ := by rw [growR, if_neg (fun c => c h), if_neg h2, if_neg h3]
end
noncomputable def callR (n : W) (K : S8) (S : List (List W)) (D : Db) (sp tb : Int) (F : File) : Option Res :=
  if n = 1#32 then some (attR K D sp F) else if n = 2#32 then some (verR K D tb F) else if n = 3#32 then some (mapR D sp F) else if n = 4#32 then some (unmapR D sp F) else
  if n = 5#32 then some (growR D sp tb F) else if n = 6#32 then some (randR S D sp F) else if n = 7#32 then some (selfR D sp F) else none
theorem callR_none {n : W} {K : S8} {S : List (List W)} {D : Db} {sp tb : Int} {F : File} (h : ¬ (n = 1#32 ∨ n = 2#32 ∨ n = 3#32 ∨ n = 4#32 ∨ n = 5#32 ∨ n = 6#32 ∨ n = 7#32)) : callR n K S D sp tb F = none := by
  simp only [not_or] at h
  obtain ⟨h1, h2, h3, h4, h5, h6, h7⟩ := h
  simp only [callR, if_neg h1, if_neg h2, if_neg h3, if_neg h4, if_neg h5, if_neg h6, if_neg h7]
structure DoR where
  f : File
  out : Bool
  val : W
  err : Int
  db : Db
def doBad (D : Db) (th : Int) : Prop := ((D.get th).2 ≠ 0 ∨ (D.get th).1.ty ≠ 2) ∨ (((D.get (D.get th).1.own).2 ≠ 0 ∨ (D.get (D.get th).1.own).1.ty ≠ 1) ∨ (D.get (D.get th).1.own).1.st ≠ 2) ∨ (tableD D (D.get th).1.own).2 ≠ 0
open Classical in
noncomputable def doR (K : S8) (S : List (List W)) (D : Db) (th : Int) (n : W) (F : File) : DoR :=
  if doBad D th then ⟨File.zero, false, 0#32, 124, D⟩ else if n = 0#32 then ⟨F, true, F.r0, 0, D⟩ else
  match callR n K S D (D.get th).1.own (tableD D (D.get th).1.own).1 F with
  | some r => ⟨r.f.ret r.code, false, 0#32, 0, r.db⟩
  | none => ⟨F.ret 15#32, false, 0#32, 0, D⟩
section
variable {K : S8} {S : List (List W)} {D : Db} {th : Int} {n : W} {F : File}
theorem doR_bad (h : doBad D th) : doR K S D th n F = ⟨File.zero, false, 0#32, 124, D⟩ := if_pos h
theorem doR_exit (h : ¬ doBad D th) (h2 : n = 0#32) : doR K S D th n F = ⟨F, true, F.r0, 0, D⟩ := by rw [doR, if_neg h, if_pos h2]
theorem doR_call {r : Res} (h : ¬ doBad D th) (h2 : ¬ n = 0#32) (h3 : callR n K S D (D.get th).1.own (tableD D (D.get th).1.own).1 F = some r) : doR K S D th n F = ⟨r.f.ret r.code, false, 0#32, 0, r.db⟩ := by rw [doR, if_neg h, if_neg h2, h3]
theorem doR_none (h : ¬ doBad D th) (h2 : ¬ n = 0#32) (h3 : callR n K S D (D.get th).1.own (tableD D (D.get th).1.own).1 F = none) : doR K S D th n F = ⟨F.ret 15#32, false, 0#32, 0, D⟩ := by rw [doR, if_neg h, if_neg h2, h3]
end
theorem leqV_pmap {a b : PMap} : leqV a.cells b.cells = decide (a = b) := by
  rw [Bool.eq_iff_iff, leqV_iff, decide_eq_true_iff, PMap.cells_inj]
theorem ne_true {e : Int} {a b : PMap} (h : (decide (e ≠ 0) || !leqV a.cells b.cells) = true) : e ≠ 0 ∨ a ≠ b := by
  rw [leqV_pmap] at h; simpa using h
theorem ne_false {e : Int} {a b : PMap} (h : (decide (e ≠ 0) || !leqV a.cells b.cells) = false) : ¬ (e ≠ 0 ∨ a ≠ b) := by
  rw [leqV_pmap] at h; simpa using h
theorem Spec.wide {P : Program} {f : FuncId} {args : Array Value} {pre L rest : List Assn} {X : Type} {q q' : X → Prop} {ret : X → Value} {post post' : X → List Assn} (h : Spec P f args pre q ret post) (hp : Pick L pre rest) (hq : ∀ x, q x → q' x) (hE : ∀ x, Ent (post x ++ rest) (post' x)) : Spec P f args L q' ret post' := fun σ R w hw =>
  ((h.use hp) σ R w hw).mono fun _ _ ⟨x, h1, h2, h3⟩ => ⟨x, h1, hq x h2, hE x _ _ _ h3⟩
end Go.Wd
