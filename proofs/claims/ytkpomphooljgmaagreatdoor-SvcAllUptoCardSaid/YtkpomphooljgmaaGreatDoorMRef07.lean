/- PROVED HERE: the plain law: what the functions compute, with no program in sight. No condition beyond each theorem's own. -/
import Derived.Test.YtkpomphooljgmaaGreatDoorMDb
import Derived.Test.YtkpomphooljgmaaGreatDoorBase5
namespace Go.Wd
open Go
theorem Pick.refl : ∀ {L : List Assn}, Pick L L []
  | [] => .nil
  | _ :: _ => .cons .here Pick.refl
theorem Pick.there {A : Assn} {L M rest : List Assn} (h : Pick L M rest) : Pick (A :: L) M (A :: rest) := by
  induction h with
  | nil => exact .nil
  | cons h _ ih => exact .cons (.there h) ih
/-! the document's memory: the pages in one list -/
def Mem.all (M : Mem) : List (List W) := M.sec ++ M.ins
def Mem.idx (M : Mem) (s : Bool) (p : Int) : Int := if M.has s p then (if s then p else M.sec.length + p) else -1
theorem Mem.idx_has {M : Mem} {s : Bool} {p : Int} : 0 ≤ M.idx s p ↔ M.has s p := by
  unfold Mem.idx
  by_cases h : M.has s p
  · have := h.1
    cases s <;> simp [h] <;> omega
  · simp [h]
theorem Mem.idx_lt {M : Mem} {s : Bool} {p : Int} (h : M.has s p) : 0 ≤ M.idx s p ∧ (M.idx s p).toNat < M.all.length := by
  have h1 := h.1; have h2 := h.2
  unfold Mem.idx Mem.all
  rw [if_pos h]
  cases s <;> simp [Mem.pgs] at * <;> omega
theorem Mem.all_get {M : Mem} {s : Bool} {p : Int} (h : M.has s p) : M.all[(M.idx s p).toNat]? = (M.pgs s)[p.toNat]? := by
  have h1 := h.1; have h2 := h.2
  unfold Mem.idx Mem.all
  rw [if_pos h]
  cases s <;> simp only [Mem.pgs, if_true, Bool.false_eq_true, if_false] at *
  · rw [List.getElem?_append_right (by omega)]; congr 1; omega
  · rw [List.getElem?_append_left (by omega)]
theorem Mem.all_set {M : Mem} {s : Bool} {p : Int} {g : List W} (h : M.has s p) : M.all.set (M.idx s p).toNat g = (M.setPage s p g).all := by
  have h1 := h.1; have h2 := h.2
  unfold Mem.idx Mem.all
  rw [if_pos h]
  cases s <;> simp only [Mem.pgs, if_true, Bool.false_eq_true, if_false, Mem.setPage] at *
  · rw [List.set_append_right _ _ (by omega)]; congr 2; omega
  · rw [List.set_append_left _ _ (by omega)]
theorem Mem.all_page {M : Mem} {s : Bool} {p : Int} (h : M.has s p) : M.all[(M.idx s p).toNat]? = some (M.page s p) := by
  rw [Mem.all_get h]
  unfold Mem.page
  rw [List.getElem?_eq_getElem (by have := h.1; have := h.2; omega)]; rfl
/-- a page's slice: nothing was laid there, or its row -/
def olen : Option Nat → Nat
  | none => 0
  | some _ => 1024
abbrev osl (o : Option Nat) : Value := .slice (o.map fun p => ⟨p, 0, none⟩) (olen o) (olen o)
def rpage (U : Nat) : Option Nat → List W → Assn
  | none, g => .fact (g = zpage)
  | some p, g => .sep (.fact (g.length = 1024)) (.row p (w32s g) U)
theorem osl_get {os : List (Option Nat)} {j : List Value} {i : Nat} {o : Option Nat} (h : os[i]? = some o) : (os.map osl ++ j)[i]? = some (osl o) := by
  rw [List.getElem?_append_left (by simpa using (List.getElem?_eq_some_iff.1 h).1)]; simp [h]
theorem osl_set {os : List (Option Nat)} {j : List Value} {i : Nat} {o : Option Nat} (h : i < os.length) : (os.map osl ++ j).set i (osl o) = (os.set i o).map osl ++ j := by
  rw [List.set_append_left _ _ (by simpa using h), List.map_set]

def RPok (os : List (Option Nat)) (gs : List (List W)) : Prop := ∀ (k : Nat) (o : Option Nat) (g : List W), os[k]? = some o → gs[k]? = some g → g.length = 1024 ∧ (o = none → g = zpage)
theorem rpage_ok {U : Nat} {o : Option Nat} {g : List W} {w : World} {F : Nat → Prop} (h : (rpage U o g).p w F) : g.length = 1024 ∧ (o = none → g = zpage) := by
  cases o with
  | none => obtain ⟨rfl, _⟩ := h; exact ⟨zpage_len, fun _ => rfl⟩
  | some p => obtain ⟨_, _, ⟨h, _⟩, _⟩ := h; exact ⟨h, fun h => by cases h⟩
theorem RPs_ok {U : Nat} {w : World} : ∀ {os : List (Option Nat)} {gs : List (List W)} {F : Nat → Prop}, (zipA (rpage U) os gs).p w F → RPok os gs
  | [], [], _, _ => fun k o g h => by simp at h
  | o :: os, g :: gs, F, ⟨_, _, h1, h2, _, _⟩ => fun k o' g' ho hg => by
    cases k with
    | zero => simp at ho hg; subst ho; subst hg; exact rpage_ok h1
    | succ k => exact RPs_ok h2 k o' g' (by simpa using ho) (by simpa using hg)
  | [], _ :: _, _, ⟨h, _⟩ => h.elim
  | _ :: _, [], _, ⟨h, _⟩ => h.elim
theorem RPs_facts {U : Nat} {os : List (Option Nat)} {gs : List (List W)} {L : List Assn} : Ent (zipA (rpage U) os gs :: L) (.fact (RPok os gs) :: zipA (rpage U) os gs :: L) := by
  rintro σ R w ⟨he, F, hF⟩
  refine ⟨he, F, Assn.sep_mono (fun F h => ?_) (fun F h => h) hF⟩
  obtain ⟨F1, F2, h1, h2, h3, rfl⟩ := h
  exact ⟨fun _ => False, _, ⟨RPs_ok h1, rfl⟩, ⟨F1, F2, h1, h2, h3, rfl⟩, fun _ h => h.elim, by funext b; simp⟩
theorem RPs_open {U k p : Nat} {os : List (Option Nat)} {gs : List (List W)} {g : List W} {L : List Assn} (ho : os[k]? = some (some p)) (hg : gs[k]? = some g) : Ent (zipA (rpage U) os gs :: L) (.row p (w32s g) U :: holeZ (rpage U) os gs k :: L) := by
  refine Ent.trans (Ent.sub (M := [zipA (rpage U) os gs]) (.cons .here .nil) (zipA_split _ ho hg)) ?_
  refine Ent.trans (Ent.sub (M := [rpage U (some p) g]) (.cons .here .nil) (M' := [.fact (g.length = 1024), .row p (w32s g) U]) ?_) ?_
  · exact Ent.sepLR
  · exact Ent.pick (.cons (.there .here) (.cons (.there .here) (Pick.there Pick.refl)))
theorem RPs_shut {U k p : Nat} {os : List (Option Nat)} {gs : List (List W)} {g : List W} (ho : k < os.length) (hg : k < gs.length) (hl : g.length = 1024) : Ent [.row p (w32s g) U, holeZ (rpage U) os gs k] [zipA (rpage U) (os.set k (some p)) (gs.set k g)] := by
  refine Ent.trans (Ent.factR hl) ?_
  refine Ent.trans Ent.sepR ?_
  exact zipA_join (rpage U) (a := some p) ho hg
theorem RPs_back {U k p : Nat} {os : List (Option Nat)} {gs : List (List W)} {g : List W} (ho : os[k]? = some (some p)) (hg : gs[k]? = some g) (hl : g.length = 1024) : Ent [.row p (w32s g) U, holeZ (rpage U) os gs k] [zipA (rpage U) os gs] := by
  have h := RPs_shut (U := U) (p := p) (List.getElem?_eq_some_iff.1 ho).1 (List.getElem?_eq_some_iff.1 hg).1 hl
  have e1 : os.set k (some p) = os := by obtain ⟨h1, h2⟩ := List.getElem?_eq_some_iff.1 ho; rw [← h2]; exact List.set_getElem_self h1
  have e2 : gs.set k g = gs := by obtain ⟨h1, h2⟩ := List.getElem?_eq_some_iff.1 hg; rw [← h2]; exact List.set_getElem_self h1
  rwa [e1, e2] at h
theorem RPs_none {U k : Nat} {os : List (Option Nat)} {gs : List (List W)} {o : Option Nat} {g : List W} (ho : os[k]? = some o) (hg : gs[k]? = some g) : Ent [zipA (rpage U) os gs] [zipA (rpage U) (os.set k none) (gs.set k zpage)] := by
  refine Ent.trans (zipA_split _ ho hg) ?_
  refine Ent.trans (Ent.pick (M := [holeZ (rpage U) os gs k]) (.cons (.there .here) .nil)) ?_
  refine Ent.trans (Ent.factR (φ := zpage = zpage) rfl) ?_
  exact zipA_join (rpage U) (a := none) (b := zpage) (List.getElem?_eq_some_iff.1 ho).1 (List.getElem?_eq_some_iff.1 hg).1
theorem RPs_new {U : Nat} {L : List Assn} : ∀ {n : Nat}, Ent L (zipA (rpage U) (List.replicate n none) (List.replicate n zpage) :: L)
  | 0 => Ent.trans Ent.empR (Ent.refl _)
  | n + 1 => by
    refine Ent.trans (RPs_new (U := U) (n := n)) ?_
    refine Ent.trans (Ent.factR (φ := zpage = zpage) rfl) ?_
    exact Ent.sub (M := [.fact (zpage = zpage), zipA (rpage U) (List.replicate n none) (List.replicate n zpage)]) (.cons .here (.cons .here .nil)) Ent.sepR
theorem osl_new {n : Nat} : (List.replicate n (none : Option Nat)).map osl = List.replicate n (Value.slice none 0 0) := List.map_replicate
theorem Mem.new_all {a b : Nat} : (Mem.new a b).all = List.replicate (a + b) zpage := by simp [Mem.new, Mem.all, List.replicate_append_replicate]
end Go.Wd
