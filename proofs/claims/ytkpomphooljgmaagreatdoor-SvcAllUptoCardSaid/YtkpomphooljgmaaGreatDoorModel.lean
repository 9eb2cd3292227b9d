/- PROVED HERE: the machine's memory as lists of words. No condition beyond each theorem's own. -/
import Derived.Test.YtkpomphooljgmaaGreatDoorBase3
namespace Go.Wd
open Go
abbrev W := BitVec 32
abbrev ptr (b : Nat) : Value := .pointer (some ⟨b, 0, none⟩)
abbrev optr (b : Option Nat) : Value := .pointer (b.map fun b => ⟨b, 0, none⟩)
def ptrs (ps : List Nat) : List Value := ps.map ptr
def w32s (g : List W) : List Value := g.map w32

theorem ptrs_get {ps : List Nat} {i b : Nat} (h : ps[i]? = some b) : (ptrs ps)[0 + i]? = some (ptr b) := by simp [ptrs, h]
theorem w32s_get {g : List W} {i : Nat} {v : W} (h : g[i]? = some v) : (w32s g)[i]? = some (w32 v) := by simp [w32s, h]
theorem w32s_set {g : List W} {i : Nat} {v : W} : (w32s g).set i (w32 v) = w32s (g.set i v) := by simp [w32s, List.map_set]
theorem w32s_length {g : List W} : (w32s g).length = g.length := by simp [w32s]

/-! the machine's memory -/
structure Mem where
  sec : List (List W)
  ins : List (List W)
  meter : Int

def Mem.pgs (M : Mem) : Bool → List (List W)
  | true => M.sec
  | false => M.ins
def Mem.has (M : Mem) (s : Bool) (p : Int) : Prop := 0 ≤ p ∧ p < (M.pgs s).length
instance (M : Mem) (s : Bool) (p : Int) : Decidable (M.has s p) := by unfold Mem.has; infer_instance
def Mem.tick (M : Mem) (k : Int) : Mem := { M with meter := IntKind.i64.wrap (M.meter + k) }
def Mem.page (M : Mem) (s : Bool) (p : Int) : List W := ((M.pgs s)[p.toNat]?).getD []
def Mem.get (M : Mem) (s : Bool) (p o : Int) : W := ((M.page s p)[o.toNat]?).getD 0
def Mem.setPage (M : Mem) : Bool → Int → List W → Mem
  | true, p, g => { M with sec := M.sec.set p.toNat g }
  | false, p, g => { M with ins := M.ins.set p.toNat g }
def Mem.put (M : Mem) (s : Bool) (p o : Int) (v : W) : Mem := M.setPage s p ((M.page s p).set o.toNat v)
/-- the error of an access to a word -/
def Mem.errW (M : Mem) (s : Bool) (p o : Int) : Int := if M.has s p then (if 0 ≤ o ∧ o < 1024 then 0 else 70) else 5
def Mem.read (M : Mem) (s : Bool) (p o : Int) : W × Int × Mem := if M.errW s p o = 0 then (M.get s p o, 0, M.tick 1) else (0, M.errW s p o, M)
def Mem.write (M : Mem) (s : Bool) (p o : Int) (v : W) : Int × Mem := if M.errW s p o = 0 then (0, (M.tick 1).put s p o v) else (M.errW s p o, M)
def Mem.zero (M : Mem) (s : Bool) (p : Int) : Int × Mem := if M.has s p then (0, (M.tick 1024).setPage s p (List.replicate 1024 0)) else (5, M)
def Mem.peek (M : Mem) (s : Bool) (p o : Int) : W := if M.errW s p o = 0 then M.get s p o else 0

theorem errW_zero {M : Mem} {s : Bool} {p o : Int} : M.errW s p o = 0 ↔ M.has s p ∧ 0 ≤ o ∧ o < 1024 := by
  unfold Mem.errW; constructor
  · intro h; split at h
    · split at h
      · exact ⟨by assumption, by assumption⟩
      · omega
    · omega
  · rintro ⟨h1, h2⟩; rw [if_pos h1, if_pos h2]

theorem setPage_len {M : Mem} {sec : Bool} {pg : Int} {g : List W} : (M.setPage sec pg g).sec.length = M.sec.length ∧ (M.setPage sec pg g).ins.length = M.ins.length ∧ (M.setPage sec pg g).meter = M.meter := by cases sec <;> simp [Mem.setPage]
theorem page_get {M : Mem} {sec : Bool} {pg : Int} {g : List W} (hg : (M.pgs sec)[pg.toNat]? = some g) : M.page sec pg = g := by simp [Mem.page, hg]
theorem word_get {g : List W} (h : g.length = 1024) {off : Int} (ho : 0 ≤ off ∧ off < 1024) : g[off.toNat]? = some (g[off.toNat]?.getD 0) := by
  rw [List.getElem?_eq_getElem (by omega)]; rfl
theorem errW_page {M : Mem} {s : Bool} {p o : Int} (h : ¬ M.has s p) : M.errW s p o = 5 := if_neg h
theorem errW_off {M : Mem} {s : Bool} {p o : Int} (h : M.has s p) (h' : ¬ (0 ≤ o ∧ o < 1024)) : M.errW s p o = 70 := by unfold Mem.errW; rw [if_pos h, if_neg h']
theorem peek_ok {M : Mem} {s : Bool} {p o : Int} {g : List W} (h : M.errW s p o = 0) (hg : (M.pgs s)[p.toNat]? = some g) : M.peek s p o = g[o.toNat]?.getD 0 := by
  unfold Mem.peek Mem.get; rw [if_pos h, page_get hg]
theorem peek_err {M : Mem} {s : Bool} {p o : Int} (h : M.errW s p o ≠ 0) : M.peek s p o = 0 := if_neg h
theorem set_same {α : Type} {l : List α} {i : Nat} {x : α} (h : l[i]? = some x) : l.set i x = l := by
  obtain ⟨h1, rfl⟩ := List.getElem?_eq_some_iff.1 h; exact List.set_getElem_self h1
def zpage : List W := List.replicate 1024 0
theorem zpage_len : zpage.length = 1024 := List.length_replicate
theorem Mem.write_page {M : Mem} {s : Bool} {p o : Int} {v : W} (h : ¬ M.has s p) : M.write s p o v = (5, M) := by unfold Mem.write; rw [errW_page h]; rfl
theorem Mem.write_off {M : Mem} {s : Bool} {p o : Int} {v : W} (h : M.has s p) (h' : ¬ (0 ≤ o ∧ o < 1024)) : M.write s p o v = (70, M) := by unfold Mem.write; rw [errW_off h h']; rfl
theorem Mem.read_page {M : Mem} {s : Bool} {p o : Int} (h : ¬ M.has s p) : M.read s p o = (0, 5, M) := by unfold Mem.read; rw [errW_page h]; rfl
theorem Mem.read_off {M : Mem} {s : Bool} {p o : Int} (h : M.has s p) (h' : ¬ (0 ≤ o ∧ o < 1024)) : M.read s p o = (0, 70, M) := by unfold Mem.read; rw [errW_off h h']; rfl
def Mem.new (a b : Nat) : Mem := ⟨List.replicate a zpage, List.replicate b zpage, 0⟩
/-! pages in memory: each a row of 1024 words -/
def pagesA (T : Nat) : List Nat → List (List W) → Assn
  | [], [] => .emp
  | p :: ps, g :: gs => .sep (.sep (.fact (g.length = 1024)) (.row p (w32s g) T)) (pagesA T ps gs)
  | _, _ => .fact False
/-- all but one -/
def holeA (T : Nat) (ps : List Nat) (gs : List (List W)) (k : Nat) : Assn := .sep (pagesA T (ps.take k) (gs.take k)) (pagesA T (ps.drop (k + 1)) (gs.drop (k + 1)))

theorem pagesA_len {T : Nat} {w : World} : ∀ {ps : List Nat} {gs : List (List W)} {F : Nat → Prop}, (pagesA T ps gs).p w F → ps.length = gs.length
  | [], [], _, _ => rfl
  | p :: ps, g :: gs, F, ⟨_, _, _, h, _, _⟩ => by have := pagesA_len h; simp [this]
  | [], _ :: _, _, ⟨h, _⟩ => h.elim
  | _ :: _, [], _, ⟨h, _⟩ => h.elim

theorem pagesA_split {T : Nat} : ∀ {k : Nat} {ps : List Nat} {gs : List (List W)} {b : Nat} {g : List W}, ps[k]? = some b → gs[k]? = some g → Ent [pagesA T ps gs] [.fact (g.length = 1024), .row b (w32s g) T, holeA T ps gs k]
  | 0, p :: ps, g' :: gs, b, g, hb, hg => by
    simp at hb hg; subst hb; subst hg
    refine Ent.trans Ent.sepLR (Ent.trans Ent.sepLR (Ent.cons (Ent.cons ?_)))
    refine Ent.trans (Ent.empR) (Ent.trans Ent.sepR ?_)
    simp only [holeA, List.take_zero, List.drop_succ_cons, List.drop_zero]
    exact Ent.refl _
  | k + 1, p :: ps, g' :: gs, b, g, hb, hg => by
    simp at hb hg
    have ih := pagesA_split (T := T) hb hg
    refine Ent.trans Ent.sepLR ?_
    refine Ent.trans (Ent.cons ih) ?_
    -- [head, fact, row, hole k] to [fact, row, hole (k+1)]
    refine Ent.trans (Ent.perm (M := [.fact (g.length = 1024), .row b (w32s g) T]) (rest := [.sep (.fact (g'.length = 1024)) (.row p (w32s g') T), holeA T ps gs k])
      (.cons (.there .here) (.cons (.there .here) .nil))) ?_
    refine Ent.cons (Ent.cons ?_)
    unfold holeA
    simp only [List.take_succ_cons, List.drop_succ_cons]
    refine Ent.trans (Ent.cons Ent.sepLR) ?_
    refine Ent.trans ?_ Ent.sepR
    exact Ent.trans Ent.sepR (Ent.refl _)

theorem pagesA_join {T : Nat} : ∀ {k : Nat} {ps : List Nat} {gs : List (List W)} {b : Nat} {g : List W}, ps[k]? = some b → k < gs.length → g.length = 1024 → Ent [.row b (w32s g) T, holeA T ps gs k] [pagesA T ps (gs.set k g)]
  | 0, p :: ps, g' :: gs, b, g, hb, _, hl => by
    simp at hb; subst hb
    simp only [List.set_cons_zero, holeA, List.take_zero, List.drop_succ_cons, List.drop_zero]
    refine Ent.trans (Ent.cons Ent.sepLR) ?_
    refine Ent.trans (Ent.pick (M := [.row p (w32s g) T, pagesA T ps gs]) (.cons .here (.cons (.there .here) .nil))) ?_
    refine Ent.trans (Ent.factR hl) ?_
    refine Ent.trans Ent.sepR ?_
    exact Ent.sepR
  | k + 1, p :: ps, g' :: gs, b, g, hb, hk, hl => by
    simp at hb hk
    have ih := pagesA_join (T := T) hb hk hl
    simp only [List.set_cons_succ, holeA, List.take_succ_cons, List.drop_succ_cons]
    refine Ent.trans (Ent.cons Ent.sepLR) ?_
    refine Ent.trans (Ent.cons Ent.sepLR) ?_
    refine Ent.trans (Ent.perm (M := [.sep (.fact (g'.length = 1024)) (.row p (w32s g') T)]) (rest := [.row b (w32s g) T, pagesA T (ps.take k) (gs.take k), pagesA T (ps.drop (k + 1)) (gs.drop (k + 1))])
      (.cons (.there .here) .nil)) ?_
    refine Ent.trans (Ent.cons (Ent.trans (Ent.cons Ent.sepR) ih)) ?_
    exact Ent.sepR
  | _, [], _, _, _, hb, _, _ => by simp at hb
  | k, _ :: _, [], _, _, _, hk, _ => by simp at hk
end Go.Wd
