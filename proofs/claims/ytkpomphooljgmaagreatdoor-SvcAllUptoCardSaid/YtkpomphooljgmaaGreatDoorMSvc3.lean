/- PROVED HERE: the plain law: what the functions compute, with no program in sight. No condition beyond each theorem's own. -/
import Derived.Test.YtkpomphooljgmaaGreatDoorMSvc2
namespace Go.Wd
open Go
structure Res.same (r s : Res) : Prop where
  f : r.f = s.f
  code : r.code = s.code
  db : r.db.same s.db
theorem near_same {D x T : Db} {K : Nat} (h : D.near x T K) : x.same T := h.same
section
variable {D T : Db} (h : D.same T) {K : S8} {S : List (List W)} {sp tb : Int} {F : File} {n : W}
include h
theorem nr : D.near D T 0 := ⟨h, 0, Nat.le_refl _, .refl⟩
theorem attR_same : (attR K D sp F).same (attR K T sp F) := ⟨by simp only [attR, h.meas], rfl, h⟩
theorem selfR_same : (selfR D sp F).same (selfR T sp F) := ⟨by simp only [selfR, h.meas], rfl, h⟩
theorem vT_same {i : Nat} : vT D tb F i = vT T tb F i := h.trans'
theorem vL_same : vL D tb F = vL T tb F := by
  unfold vL; congr 1; funext i; unfold vW; rw [vT_same h, h.peek]
theorem vBad_same : vBad D tb F ↔ vBad T tb F := by unfold vBad; simp only [vT_same h]
theorem vOk_same : vOk K D tb F ↔ vOk K T tb F := by unfold vOk; rw [vL_same h]
theorem verR_same : (verR K D tb F).same (verR K T tb F) := by
  by_cases h1 : vBad T tb F
  · rw [verR_bad h1, verR_bad ((vBad_same h).2 h1)]; exact ⟨rfl, rfl, h⟩
  · have h1' : ¬ vBad D tb F := fun c => h1 ((vBad_same h).1 c)
    by_cases h2 : vOk K T tb F
    · rw [verR_ok h1 h2, verR_ok h1' ((vOk_same h).2 h2)]; exact ⟨rfl, rfl, h⟩
    · rw [verR_no h1 h2, verR_no h1' (fun c => h2 ((vOk_same h).1 c))]; exact ⟨rfl, rfl, h⟩
theorem mapR_same : (mapR D sp F).same (mapR T sp F) := by
  by_cases h1 : ownsD T sp (pg F) 6
  · have h1' := h.owns.2 h1
    by_cases h2 : (parseM F.r2).2 ≠ 0
    · rw [mapR_2 h1 h2, mapR_2 h1' h2]; exact ⟨rfl, rfl, h⟩
    · by_cases h3 : slotD T sp (parseM F.r2).1.va = 0
      · rw [mapR_5 h1 h2 h3, mapR_5 h1' h2 (by rw [h.slot]; exact h3)]
        exact ⟨rfl, rfl, ((nr h).turn.put).same⟩
      · by_cases h4 : slotD T sp (parseM F.r2).1.va = 140
        · rw [mapR_3 h1 h2 h4, mapR_3 h1' h2 (by rw [h.slot]; exact h4)]; exact ⟨rfl, rfl, h⟩
        · rw [mapR_4 h1 h2 h4 h3, mapR_4 h1' h2 (by rw [h.slot]; exact h4) (by rw [h.slot]; exact h3)]; exact ⟨rfl, rfl, h⟩
  · rw [mapR_1 h1, mapR_1 (fun c => h1 (h.owns.1 c))]; exact ⟨rfl, rfl, h⟩
theorem unmapR_same : (unmapR D sp F).same (unmapR T sp F) := by
  by_cases h1 : ownsD T sp (pg F) 5
  · have h1' := h.owns.2 h1
    by_cases h2 : (parseM F.r2).2 ≠ 0
    · rw [unmapR_2 h1 h2, unmapR_2 h1' h2]; exact ⟨rfl, rfl, h⟩
    · by_cases h3 : (atD T sp (parseM F.r2).1.va).2 = 141
      · rw [unmapR_3 h1 h2 h3, unmapR_3 h1' h2 (by rw [h.atD]; exact h3)]; exact ⟨rfl, rfl, h⟩
      · by_cases h4 : (atD T sp (parseM F.r2).1.va).2 ≠ 0 ∨ (atD T sp (parseM F.r2).1.va).1 ≠ ⟨true, pg F, (parseM F.r2).1.wr, (parseM F.r2).1.ex⟩
        · rw [unmapR_4 h1 h2 h3 h4, unmapR_4 h1' h2 (by rw [h.atD]; exact h3) (by rw [h.atD]; exact h4)]; exact ⟨rfl, rfl, h⟩
        · rw [unmapR_5 h1 h2 h3 h4, unmapR_5 h1' h2 (by rw [h.atD]; exact h3) (by rw [h.atD]; exact h4)]
          exact ⟨rfl, rfl, ((nr h).cut.turn).same⟩
  · rw [unmapR_1 h1, unmapR_1 (fun c => h1 (h.owns.1 c))]; exact ⟨rfl, rfl, h⟩
theorem growR_same : (growR D sp tb F).same (growR T sp tb F) := by
  by_cases h1 : ownsD T sp (pg F) 6
  · have h1' := h.owns.2 h1
    by_cases h2 : 255 < F.r2.toNat
    · rw [growR_2 h1 h2, growR_2 h1' h2]; exact ⟨rfl, rfl, h⟩
    · by_cases h3 : T.pk tb (F.r2.toNat : Int) ≠ 0#32
      · rw [growR_3 h1 h2 h3, growR_3 h1' h2 (by rw [h.pk]; exact h3)]; exact ⟨rfl, rfl, h⟩
      · rw [growR_4 h1 h2 h3, growR_4 h1' h2 (by rw [h.pk]; exact h3)]
        exact ⟨rfl, rfl, ((nr h).turn.addT).same⟩
  · rw [growR_1 h1, growR_1 (fun c => h1 (h.owns.1 c))]; exact ⟨rfl, rfl, h⟩
theorem randR_same : (randR S D sp F).same (randR S T sp F) := by
  refine ⟨by simp only [randR, h.pk], rfl, ?_⟩
  simp only [randR, h.pk]
  split
  · exact h.wr
  · exact h
theorem callR_same {r : Res} (hr : callR n K S D sp tb F = some r) : ∃ s, callR n K S T sp tb F = some s ∧ r.same s := by
  unfold callR at hr ⊢
  split at hr
  · rename_i c; rw [if_pos c]; cases hr; exact ⟨_, rfl, attR_same h⟩
  · rename_i c; rw [if_neg c]
    split at hr
    · rename_i c; rw [if_pos c]; cases hr; exact ⟨_, rfl, verR_same h⟩
    · rename_i c; rw [if_neg c]
      split at hr
      · rename_i c; rw [if_pos c]; cases hr; exact ⟨_, rfl, mapR_same h⟩
      · rename_i c; rw [if_neg c]
        split at hr
        · rename_i c; rw [if_pos c]; cases hr; exact ⟨_, rfl, unmapR_same h⟩
        · rename_i c; rw [if_neg c]
          split at hr
          · rename_i c; rw [if_pos c]; cases hr; exact ⟨_, rfl, growR_same h⟩
          · rename_i c; rw [if_neg c]
            split at hr
            · rename_i c; rw [if_pos c]; cases hr; exact ⟨_, rfl, randR_same h⟩
            · rename_i c; rw [if_neg c]
              split at hr
              · rename_i c; rw [if_pos c]; cases hr; exact ⟨_, rfl, selfR_same h⟩
              · cases hr
end
theorem Knows.pickEx {α : Type} {A : α → Assn} {x : α} {L M rest : List Assn} (hp : Pick L (A x :: M) rest) : Knows L (.ex A :: M) := fun w hw => by
  obtain ⟨F, hF⟩ := hw.pick hp
  exact ⟨F, Assn.sep_mono (A := A x) (A' := .ex A) (fun F h => (show (Assn.ex A).p w F from ⟨x, h⟩)) (fun _ h => h) hF⟩
theorem reg_get {F : File} {a b c : Value} {r : List Value} {i : Nat} (h : i < 8) : ([a, b, c] ++ F.cells ++ r)[3 + (1 + i)]? = some (w32 (wAt F.data.ws i)) := by
  have : i = 0 ∨ i = 1 ∨ i = 2 ∨ i = 3 ∨ i = 4 ∨ i = 5 ∨ i = 6 ∨ i = 7 := by omega
  rcases this with rfl | rfl | rfl | rfl | rfl | rfl | rfl | rfl <;> rfl
def layL (F : File) (s : S8) (i : Nat) : List Value := [w32 F.r0] ++ w32s (s.ws.take i ++ F.data.ws.drop i) ++ [w32 F.r9, w32 F.r10, w32 F.r11, w32 F.r12, w32 F.r13, w32 F.r14, w32 F.pc, .bool F.z, .bool F.n, .bool F.l]
theorem layL_set {F : File} {s : S8} {i : Nat} (h : i < 8) : (layL F s i).set (1 + i) (w32 (wAt s.ws i)) = layL F s (i + 1) := by
  have : i = 0 ∨ i = 1 ∨ i = 2 ∨ i = 3 ∨ i = 4 ∨ i = 5 ∨ i = 6 ∨ i = 7 := by omega
  rcases this with rfl | rfl | rfl | rfl | rfl | rfl | rfl | rfl <;> rfl
theorem layL_len {F : File} {s : S8} {i : Nat} (h : i ≤ 8) : (layL F s i).length = 19 := by
  have h1 : s.ws.length = 8 := rfl
  have h2 : F.data.ws.length = 8 := rfl
  unfold layL; simp only [List.length_append, w32s_length, List.length_take, List.length_drop, List.length_cons, List.length_nil, h1, h2]; omega
section
variable {n : W} {K : S8} {S : List (List W)} {D : Db} {sp tb : Int} {F : File}
theorem callR_1  (h : n = 1#32) : callR n K S D sp tb F = some (attR K D sp F) := by simp only [callR, if_pos h]
theorem callR_2 (h1 : ¬ n = 1#32) (h : n = 2#32) : callR n K S D sp tb F = some (verR K D tb F) := by simp only [callR, if_neg h1, if_pos h]
theorem callR_3 (h1 : ¬ n = 1#32) (h2 : ¬ n = 2#32) (h : n = 3#32) : callR n K S D sp tb F = some (mapR D sp F) := by simp only [callR, if_neg h1, if_neg h2, if_pos h]
theorem callR_4 (h1 : ¬ n = 1#32) (h2 : ¬ n = 2#32) (h3 : ¬ n = 3#32) (h : n = 4#32) : callR n K S D sp tb F = some (unmapR D sp F) := by simp only [callR, if_neg h1, if_neg h2, if_neg h3, if_pos h]
theorem callR_5 (h1 : ¬ n = 1#32) (h2 : ¬ n = 2#32) (h3 : ¬ n = 3#32) (h4 : ¬ n = 4#32) (h : n = 5#32) : callR n K S D sp tb F = some (growR D sp tb F) := by simp only [callR, if_neg h1, if_neg h2, if_neg h3, if_neg h4, if_pos h]
theorem callR_6 (h1 : ¬ n = 1#32) (h2 : ¬ n = 2#32) (h3 : ¬ n = 3#32) (h4 : ¬ n = 4#32) (h5 : ¬ n = 5#32) (h : n = 6#32) : callR n K S D sp tb F = some (randR S D sp F) := by simp only [callR, if_neg h1, if_neg h2, if_neg h3, if_neg h4, if_neg h5, if_pos h]
theorem callR_7 (h1 : ¬ n = 1#32) (h2 : ¬ n = 2#32) (h3 : ¬ n = 3#32) (h4 : ¬ n = 4#32) (h5 : ¬ n = 5#32) (h6 : ¬ n = 6#32) (h : n = 7#32) : callR n K S D sp tb F = some (selfR D sp F) := by simp only [callR, if_neg h1, if_neg h2, if_neg h3, if_neg h4, if_neg h5, if_neg h6, if_pos h]
end
theorem ofInt_succ {a : W} : BitVec.ofInt 32 ((a.toNat : Int) + 1) = a + 1#32 := by
  apply BitVec.eq_of_toNat_eq
  rw [BitVec.toNat_ofInt, BitVec.toNat_add]
  have := a.isLt
  show (((a.toNat : Int) + 1) % ((2 ^ 32 : Nat) : Int)).toNat = (a.toNat + 1) % 2 ^ 32
  omega
theorem owns_tt {D : Db} {sp p t : Int} (h1 : (D.get p).2 = 0) (h2 : (D.get p).1.ty = t) : decide (ownsD D sp p t) = decide ((D.get p).1.own = sp) := decide_eq_decide.2 ⟨fun c => (owns_get.2 c).2, fun c => owns_get.1 ⟨⟨h1, h2⟩, c⟩⟩
theorem owns_tf {D : Db} {sp p t : Int} (h2 : ¬ (D.get p).1.ty = t) : decide (ownsD D sp p t) = false := decide_eq_false fun c => h2 (owns_get.2 c).1.2
theorem owns_f {D : Db} {sp p t : Int} (h2 : ¬ (D.get p).2 = 0) : decide (ownsD D sp p t) = false := decide_eq_false fun c => h2 (owns_get.2 c).1.1
theorem Db.near.comp {D y x T U : Db} {k K : Nat} (h0 : D.near y D k) (h : y.near x T K) (hs : T.same U) : D.near x U (k + K) := by
  obtain ⟨a, h1, h2⟩ := h0.met
  obtain ⟨b, h3, h4⟩ := h.met
  exact ⟨h.same.trans hs, a + b, by omega, h2.trans h4⟩
theorem doBad_same {D T : Db} (h : D.same T) {th : Int} : doBad D th ↔ doBad T th := by unfold doBad; simp only [h.get, h.table]
theorem doR_same {D T : Db} (h : D.same T) {K : S8} {S : List (List W)} {th : Int} {n : W} {F : File} : (doR K S D th n F).f = (doR K S T th n F).f ∧ (doR K S D th n F).out = (doR K S T th n F).out ∧ (doR K S D th n F).val = (doR K S T th n F).val ∧ (doR K S D th n F).err = (doR K S T th n F).err ∧ (doR K S D th n F).db.same (doR K S T th n F).db := by
  by_cases h1 : doBad T th
  · rw [doR_bad h1, doR_bad ((doBad_same h).2 h1)]; exact ⟨rfl, rfl, rfl, rfl, h⟩
  · have h1' : ¬ doBad D th := fun c => h1 ((doBad_same h).1 c)
    by_cases h2 : n = 0#32
    · rw [doR_exit h1 h2, doR_exit h1' h2]; exact ⟨rfl, rfl, rfl, rfl, h⟩
    · cases hc : callR n K S D (D.get th).1.own (tableD D (D.get th).1.own).1 F with
      | none =>
        have h3 : callR n K S T (T.get th).1.own (tableD T (T.get th).1.own).1 F = none := by
          cases hc2 : callR n K S T (T.get th).1.own (tableD T (T.get th).1.own).1 F with
          | none => rfl
          | some s =>
            obtain ⟨r, hr, _⟩ := callR_same h.symm hc2
            rw [h.get, h.table] at hc; rw [hr] at hc; cases hc
        rw [doR_none h1' h2 hc, doR_none h1 h2 h3]; exact ⟨rfl, rfl, rfl, rfl, h⟩
      | some r =>
        obtain ⟨s, hs, h4⟩ := callR_same h hc
        rw [h.get, h.table] at hs
        rw [doR_call h1' h2 hc, doR_call h1 h2 hs]
        exact ⟨by rw [h4.f, h4.code], rfl, rfl, rfl, h4.db⟩
end Go.Wd
