/- PROVED HERE: rules of assertions with a footprint, and of the model's operations over them. No condition beyond each theorem's own. -/
import Derived.Test.YtkpomphooljgmaaGreatDoorBase6
import Derived.Test.YtkpomphooljgmaaGreatDoorMSha
namespace Go.Wd
open Go
/-! ### a window of words in a row that is owned -/
def WinA (T : Nat) (v : Value) (ws : List W) : Assn := .ex fun x : Option (Nat × Nat × Nat × List Value) => match x with
  | none => .fact (v = .slice none 0 0 ∧ ws = [])
  | some (g, off, cap, l) => .all [.fact (v = .slice (some ⟨g, off, none⟩) ws.length cap ∧ (l.drop off).take ws.length = w32s ws ∧ off + ws.length ≤ l.length ∧ ws.length ≤ cap), .row g l T]
/-! the digest, word by word -/
structure Dig where
  st : S8
  n : Int
  ws : List W
def Dig.put (st : S8) (ws : List W) (w : W) : S8 × List W := if (ws ++ [w]).length = 16 then (st.block (ws ++ [w]), []) else (st, ws ++ [w])
def putAll (st : S8) (ws : List W) : List W → S8 × List W
  | [] => (st, ws)
  | w :: l => putAll (Dig.put st ws w).1 (Dig.put st ws w).2 l
theorem put_short {st : S8} {ws : List W} {w : W} (h : ws.length < 16) : (Dig.put st ws w).2.length < 16 := by
  unfold Dig.put; split
  · simp
  · rename_i h1; simp at h1 ⊢; omega
theorem putAll_append {st : S8} {ws a b : List W} : putAll st ws (a ++ b) = putAll (putAll st ws a).1 (putAll st ws a).2 b := by
  induction a generalizing st ws with
  | nil => rfl
  | cons w a ih => exact ih
theorem putAll_short {st : S8} {ws l : List W} (h : ws.length < 16) : (putAll st ws l).2.length < 16 := by
  induction l generalizing st ws with
  | nil => exact h
  | cons w l ih => exact ih (put_short h)
/-- fewer than sixteen: they wait -/
theorem putAll_few {st : S8} {ws l : List W} (h : ws.length + l.length < 16) : putAll st ws l = (st, ws ++ l) := by
  induction l generalizing st ws with
  | nil => simp [putAll]
  | cons w l ih =>
    simp only [List.length_cons] at h
    have e : Dig.put st ws w = (st, ws ++ [w]) := by unfold Dig.put; rw [if_neg (by simp; omega)]
    rw [putAll, e, ih (by simp; omega)]; simp
/-- sixteen: a block -/
theorem putAll_block {st : S8} {ws l : List W} (h : ws.length + l.length = 16) (hl : l ≠ []) : putAll st ws l = (st.block (ws ++ l), []) := by
  induction l generalizing st ws with
  | nil => exact absurd rfl hl
  | cons w l ih =>
    simp only [List.length_cons] at h
    cases l with
    | nil =>
      simp at h
      have e : Dig.put st ws w = (st.block (ws ++ [w]), []) := by unfold Dig.put; rw [if_pos (by simp; omega)]
      rw [putAll, e]; rfl
    | cons u l =>
      have e : Dig.put st ws w = (st, ws ++ [w]) := by unfold Dig.put; rw [if_neg (by simp at h ⊢; omega)]
      rw [putAll, e, ih (by simp at h ⊢; omega) (by simp)]; simp
/-- the whole blocks of a list, then those that wait -/
theorem putAll_chunk {st : S8} {l : List W} (h : 16 ≤ l.length) : putAll st [] l = putAll (st.block (l.take 16)) [] (l.drop 16) := by
  have e : l = l.take 16 ++ l.drop 16 := (List.take_append_drop 16 l).symm
  conv => lhs; rw [e]
  rw [putAll_append, putAll_block (ws := []) (l := l.take 16) (by simp; omega) (by intro c; have h2 : (l.take 16).length = 0 := by { rw [c]; rfl }; rw [List.length_take] at h2; omega)]; rfl
theorem putAll_nil {st : S8} {ws l : List W} (h : ws.length < 16) : putAll st ws l = putAll st [] (ws ++ l) := by
  rw [putAll_append, putAll_few (ws := []) (l := ws) (by simpa using h)]; rfl

section
variable {P : Program} {n : Nat} {σ : Env} {R : Assn} {Q : Exit → Act → World → Prop} {s : Slots} {L L' L1 L2 : List Assn} {ops : Array Oper} {l : List Oper} {ty : Nat} {pos : String} {af : Array Edge}
/-- append of another growing slice, nil or not -/
theorem TL.appendG {d t E k bytes n0 m : Nat} {i : TypeInfo} {z v v2 : Value} {xs us : List Value} {x y : Operand} (ht : P.underlying t = some (.slice E)) (hi : ∀ w, (typeInfo E).run P w = .ok i w) (hz : i.zero = some z) (hs : i.size = k) (hb : i.bytes = bytes)
    (hzs : z.cells.size = k) (hk : 0 < k) (hx : ev s x = some v) (hy : ev s y = some v2) (hm : Take L (GSl E k v n0 xs) L1) (hg : Take L1 (GSl E k v2 m us) L2) (hv : us.all isCell = true)
    (h63 : (n0 + m) * (bytes + 1) ≤ 140737488355328) (hn : Nat.blt d n = true)
    (h : ∀ v', isCell v' = true → TL P n σ R ops Q l ((d, v') :: s) (GSl E k v' (n0 + m) (xs ++ us) :: L1)) : TL P n σ R ops Q (⟨some d, .call ⟨.builtin .append, #[x, y], #[t, t]⟩, ty, pos, af, none⟩ :: l) s L :=
  TL.effEx (X := {v : Value // isCell v = true}) (v := fun v' => v'.1) (L' := fun v' => GSl E k v'.1 (n0 + m) (xs ++ us) :: L1) hn (fun a w hsl hw o ho => by
    have h1 : (n0 + m) * bytes ≤ 140737488355328 := Nat.le_trans (Nat.mul_le_mul_left _ (by omega)) h63
    have h2 : n0 + m ≤ 140737488355328 := Nat.le_trans (Nat.le_mul_of_pos_right _ (by omega)) h63
    have hw2 : Own σ (GSl E k v n0 xs :: L1) R w := hw.pickAll (M := [GSl E k v n0 xs]) (.cons hm .nil)
    obtain ⟨F0, hsrc, _⟩ := hw2.holds (.there hg)
    have hr : ∃ v' w', (Builtin.append_ #[t, t] o.type #[v, v2]).run P w = .ok v' w' ∧ Own σ (GSl E k v' (n0 + m) (xs ++ us) :: L1) R w' := by
      rcases hsrc.2 with ⟨rfl, rfl⟩ | ⟨g, cap, cur, rfl, h3, h4, h5⟩
      · have hu : us = [] := List.eq_nil_of_length_eq_zero (by simpa using hsrc.1)
        subst hu
        obtain ⟨F1, hd, _⟩ := hw.holds hm
        exact ⟨v, w, run_append_owned_none w 0 t o.type E i k ht (info_of hi) v n0 xs hd, by simpa using hw2⟩
      · exact run_append_gsl (t := t) (ty := o.type) (c := cap) (g := g) (off := 0) (m := m) (us := us) ht (info_of hi) hz hs hb hzs hk hw hm hsrc.1 (hsrc.cells rfl) hv (by simp only [maxLen]; omega) h1
    obtain ⟨v', w', hr, ho2⟩ := hr
    refine ⟨⟨v', GSl.cell (ho2.holds .here)⟩, w', ?_, ho2⟩
    rw [execOp_builtin' _ o _ _ _ ho]
    simp only [List.map_toArray, List.map_cons, List.map_nil, hsl.ev hx, hsl.ev hy]
    exact run_v hr) (fun v' => h v'.1 v'.2)
end
end Go.Wd
