/- PROVED HERE: the plain law: what the functions compute, with no program in sight. No condition beyond each theorem's own. -/
import Derived.Test.YtkpomphooljgmaaGreatDoorBase9
namespace Go.Wd
open Go
structure File where
  r0 : W
  r1 : W
  r2 : W
  r3 : W
  r4 : W
  r5 : W
  r6 : W
  r7 : W
  r8 : W
  r9 : W
  r10 : W
  r11 : W
  r12 : W
  r13 : W
  r14 : W
  pc : W
  z : Bool
  n : Bool
  l : Bool
deriving DecidableEq
abbrev File.cells (F : File) : List Value := [w32 F.r0, w32 F.r1, w32 F.r2, w32 F.r3, w32 F.r4, w32 F.r5, w32 F.r6, w32 F.r7, w32 F.r8, w32 F.r9, w32 F.r10, w32 F.r11, w32 F.r12, w32 F.r13, w32 F.r14, w32 F.pc, .bool F.z, .bool F.n, .bool F.l]
abbrev File.val (F : File) : Value := .agg F.cells.toArray
abbrev File.data (F : File) : S8 := ⟨F.r1, F.r2, F.r3, F.r4, F.r5, F.r6, F.r7, F.r8⟩
abbrev File.lay (F : File) (s : S8) : File := { F with r1 := s.a, r2 := s.b, r3 := s.c, r4 := s.d, r5 := s.e, r6 := s.f, r7 := s.g, r8 := s.h }
abbrev File.ret (F : File) (c : W) : File := { F with r0 := c }
def File.zero : File := ⟨0, 0, 0, 0, 0, 0, 0, 0, 0, 0, 0, 0, 0, 0, 0, 0, false, false, false⟩
abbrev meas (D : Db) (sp : Int) : S8 := ⟨D.pk sp 3, D.pk sp 4, D.pk sp 5, D.pk sp 6, D.pk sp 7, D.pk sp 8, D.pk sp 9, D.pk sp 10⟩
theorem meas_at {D : Db} {sp : Int} {i : Nat} (h : i < 8) : (meas D sp).ws[i]'h = D.pk sp (3 + (i : Int)) := by
  have : i = 0 ∨ i = 1 ∨ i = 2 ∨ i = 3 ∨ i = 4 ∨ i = 5 ∨ i = 6 ∨ i = 7 := by omega
  rcases this with rfl | rfl | rfl | rfl | rfl | rfl | rfl | rfl <;> rfl
/-! the meter apart -/
def Met (a b : Int) (n : Nat) : Prop := (n = 0 ∧ b = a) ∨ b = IntKind.i64.wrap (a + n)
theorem wrap_wrap {a b : Int} : IntKind.i64.wrap (IntKind.i64.wrap a + b) = IntKind.i64.wrap (a + b) := by
  simp only [IntKind.wrap_i64]; omega
theorem Met.refl {a : Int} : Met a a 0 := .inl ⟨rfl, rfl⟩
theorem Met.trans {a b c : Int} {n m : Nat} (h : Met a b n) (h' : Met b c m) : Met a c (n + m) := by
  rcases h with ⟨rfl, rfl⟩ | h
  · rw [Nat.zero_add]; exact h'
  · rcases h' with ⟨rfl, rfl⟩ | h'
    · exact .inr h
    · right; rw [h', h, wrap_wrap]; congr 1; omega
def Db.met (D : Db) (t : Int) : Db := { D with mem := { D.mem with meter := t } }
structure Db.same (D T : Db) : Prop where
  ents : D.ents = T.ents
  births : D.births = T.births
  sec : D.mem.sec = T.mem.sec
  ins : D.mem.ins = T.mem.ins
theorem Db.same.eq {D T : Db} (h : D.same T) : D = T.met D.mem.meter := by
  obtain ⟨⟨a, b, c⟩, d, e⟩ := D
  obtain ⟨⟨a', b', c'⟩, d', e'⟩ := T
  obtain ⟨h1, h2, h3, h4⟩ := h
  simp only at h1 h2 h3 h4
  subst h1; subst h2; subst h3; subst h4; rfl
theorem Db.same.refl {D : Db} : D.same D := ⟨rfl, rfl, rfl, rfl⟩
theorem Db.same.symm {D T : Db} (h : D.same T) : T.same D := ⟨h.ents.symm, h.births.symm, h.sec.symm, h.ins.symm⟩
theorem Db.same.trans {D T U : Db} (h : D.same T) (h' : T.same U) : D.same U := ⟨h.ents.trans h'.ents, h.births.trans h'.births, h.sec.trans h'.sec, h.ins.trans h'.ins⟩
theorem Db.met_same {D : Db} {t : Int} : (D.met t).same D := ⟨rfl, rfl, rfl, rfl⟩
theorem Mem.errW_met {M : Mem} {t : Int} {s : Bool} {p o : Int} : ({ M with meter := t } : Mem).errW s p o = M.errW s p o := by cases s <;> rfl
theorem Mem.has_met {M : Mem} {t : Int} {s : Bool} {p : Int} : ({ M with meter := t } : Mem).has s p ↔ M.has s p := by cases s <;> exact Iff.rfl
theorem Mem.peek_met {M : Mem} {t : Int} {s : Bool} {p o : Int} : ({ M with meter := t } : Mem).peek s p o = M.peek s p o := by cases s <;> rfl
theorem Db.same.pk {D T : Db} (h : D.same T) {p o : Int} : D.pk p o = T.pk p o := by rw [h.eq]; exact Mem.peek_met
theorem Db.same.peek {D T : Db} (h : D.same T) {s : Bool} {p o : Int} : D.mem.peek s p o = T.mem.peek s p o := by rw [h.eq]; exact Mem.peek_met
theorem Db.same.mhas {D T : Db} (h : D.same T) {s : Bool} {p : Int} : D.mem.has s p ↔ T.mem.has s p := by rw [h.eq]; exact Mem.has_met
theorem Db.same.errW {D T : Db} (h : D.same T) {s : Bool} {p o : Int} : D.mem.errW s p o = T.mem.errW s p o := by rw [h.eq]; exact Mem.errW_met
theorem Db.same.has {D T : Db} (h : D.same T) {p : Int} : D.has p ↔ T.has p := by rw [h.eq]; exact Iff.rfl
theorem Db.same.owns {D T : Db} (h : D.same T) {a b c : Int} : ownsD D a b c ↔ ownsD T a b c := by rw [h.eq]; exact Iff.rfl
theorem Db.same.get {D T : Db} (h : D.same T) {p : Int} : D.get p = T.get p := by rw [h.eq]; rfl
theorem tableD_met {D : Db} {t a : Int} : tableD (D.met t) a = tableD D a := rfl
theorem findD_met {D : Db} {t a : Int} {va : W} : findD (D.met t) a va = findD D a va := rfl
theorem slotD_met {D : Db} {t a : Int} {va : W} : slotD (D.met t) a va = slotD D a va := rfl
theorem mappedD_met {D : Db} {t : Int} {w : W} : mappedD (D.met t) w = mappedD D w := by
  unfold mappedD; simp only [Db.met, Mem.has_met]
theorem atD_met {D : Db} {t a : Int} {va : W} : atD (D.met t) a va = atD D a va := by
  show (if _ then _ else mappedD (D.met t) _) = _; rw [mappedD_met]; rfl
theorem tableM_met {M : Mem} {t a b : Int} : tableM { M with meter := t } a b = tableM M a b := rfl
theorem placeM_met {M : Mem} {t a b : Int} : placeM { M with meter := t } a b = placeM M a b := by
  unfold placeM; simp only [Mem.errW_met, Mem.peek_met, Mem.has_met]
theorem walkM_met {M : Mem} {t a : Int} {va : W} : walkM { M with meter := t } a va = walkM M a va := by
  unfold walkM; simp only [tableM_met, placeM_met]
theorem transM_met {M : Mem} {t a c : Int} {va : W} : transM { M with meter := t } a va c = transM M a va c := by
  unfold transM; simp only [walkM_met]
theorem Db.same.table {D T : Db} (h : D.same T) {a : Int} : tableD D a = tableD T a := by rw [h.eq]; rfl
theorem Db.same.find {D T : Db} (h : D.same T) {a : Int} {va : W} : findD D a va = findD T a va := by rw [h.eq]; rfl
theorem Db.same.slot {D T : Db} (h : D.same T) {a : Int} {va : W} : slotD D a va = slotD T a va := by rw [h.eq]; rfl
theorem Db.same.atD {D T : Db} (h : D.same T) {a : Int} {va : W} : Wd.atD D a va = Wd.atD T a va := by rw [h.eq]; exact atD_met
theorem Db.same.trans' {D T : Db} (h : D.same T) {a c : Int} {va : W} : transM D.mem a va c = transM T.mem a va c := by rw [h.eq]; exact transM_met
theorem Db.same.meas {D T : Db} (h : D.same T) {sp : Int} : Wd.meas D sp = Wd.meas T sp := by simp only [Wd.meas, h.pk]
theorem Mem.setPage_met {M : Mem} {t : Int} {s : Bool} {p : Int} {g : List W} : (({ M with meter := t } : Mem).setPage s p g).sec = (M.setPage s p g).sec ∧ (({ M with meter := t } : Mem).setPage s p g).ins = (M.setPage s p g).ins := by cases s <;> exact ⟨rfl, rfl⟩
theorem Mem.write_met {M : Mem} {t : Int} {p o : Int} {v : W} : (({ M with meter := t } : Mem).write true p o v).1 = (M.write true p o v).1 ∧ (({ M with meter := t } : Mem).write true p o v).2.sec = (M.write true p o v).2.sec ∧ (({ M with meter := t } : Mem).write true p o v).2.ins = (M.write true p o v).2.ins := by
  unfold Mem.write
  rw [Mem.errW_met]
  by_cases h : M.errW true p o = 0
  · rw [if_pos h, if_pos h]; exact ⟨rfl, rfl, rfl⟩
  · rw [if_neg h, if_neg h]; exact ⟨rfl, rfl, rfl⟩
theorem Mem.zero_met {M : Mem} {t : Int} {p : Int} : (({ M with meter := t } : Mem).zero true p).1 = (M.zero true p).1 ∧ (({ M with meter := t } : Mem).zero true p).2.sec = (M.zero true p).2.sec ∧ (({ M with meter := t } : Mem).zero true p).2.ins = (M.zero true p).2.ins := by
  unfold Mem.zero
  by_cases h : M.has true p
  · rw [if_pos h, if_pos (show ({ M with meter := t } : Mem).has true p from h)]; exact ⟨rfl, rfl, rfl⟩
  · rw [if_neg h, if_neg (show ¬ ({ M with meter := t } : Mem).has true p from h)]; exact ⟨rfl, rfl, rfl⟩
theorem Mem.write_meter {M : Mem} {p o : Int} {v : W} : ∃ n, n ≤ 1 ∧ Met M.meter (M.write true p o v).2.meter n := by
  unfold Mem.write; split
  · exact ⟨1, by decide, .inr rfl⟩
  · exact ⟨0, by decide, .inl ⟨rfl, rfl⟩⟩
theorem Mem.zero_meter {M : Mem} {p : Int} : ∃ n, n ≤ 1024 ∧ Met M.meter (M.zero true p).2.meter n := by
  unfold Mem.zero; split
  · exact ⟨1024, by decide, .inr rfl⟩
  · exact ⟨0, by decide, .inl ⟨rfl, rfl⟩⟩
theorem Mem.tk_meter {M : Mem} {k : Nat} : Met M.meter (M.tk k).meter k := by
  induction k with
  | zero => exact .inl ⟨rfl, rfl⟩
  | succ k ih => exact ih.trans (b := (M.tk k).meter) (m := 1) (.inr rfl)
theorem Db.same.wr {D T : Db} (h : D.same T) {p o : Int} {v : W} : (D.wr p o v).same (T.wr p o v) := by
  rw [h.eq]; exact ⟨rfl, rfl, Mem.write_met.2.1, Mem.write_met.2.2⟩
theorem Db.same.turn {D T : Db} (h : D.same T) {p t : Int} : (D.turn p t).1 = (T.turn p t).1 ∧ (D.turn p t).2.same (T.turn p t).2 := by
  rw [h.eq]
  unfold Db.turn
  by_cases h1 : T.has p
  · rw [if_neg (show ¬ ¬ (T.met D.mem.meter).has p from fun c => c h1), if_neg (show ¬ ¬ T.has p from fun c => c h1)]
    by_cases h2 : turns (T.at p).ty ∧ turns t
    · rw [if_neg (show ¬ ¬ (turns ((T.met D.mem.meter).at p).ty ∧ turns t) from fun c => c h2), if_neg (show ¬ ¬ (turns (T.at p).ty ∧ turns t) from fun c => c h2)]
      exact ⟨rfl, rfl, rfl, Mem.zero_met.2.1, Mem.zero_met.2.2⟩
    · rw [if_pos (show ¬ (turns ((T.met D.mem.meter).at p).ty ∧ turns t) from h2), if_pos h2]
      exact ⟨rfl, Db.met_same⟩
  · rw [if_pos (show ¬ (T.met D.mem.meter).has p from h1), if_pos h1]; exact ⟨rfl, Db.met_same⟩
theorem Db.turn_meter {D : Db} {p t : Int} : ∃ n, n ≤ 1024 ∧ Met D.mem.meter (D.turn p t).2.mem.meter n := by
  unfold Db.turn; split
  · exact ⟨0, by decide, .inl ⟨rfl, rfl⟩⟩
  · split
    · exact ⟨0, by decide, .inl ⟨rfl, rfl⟩⟩
    · exact Mem.zero_meter
/-- 'x' is 'T' but for its meter, which stands at most K further than D's -/
structure Db.near (D x T : Db) (K : Nat) : Prop where
  same : x.same T
  met : ∃ n, n ≤ K ∧ Met D.mem.meter x.mem.meter n
theorem Db.near.refl {D : Db} {K : Nat} : D.near D D K := ⟨.refl, 0, Nat.zero_le _, .refl⟩
theorem Db.near.le {D x T : Db} {K K' : Nat} (h : D.near x T K) (hk : K ≤ K') : D.near x T K' := ⟨h.same, by obtain ⟨n, h1, h2⟩ := h.met; exact ⟨n, Nat.le_trans h1 hk, h2⟩⟩
theorem Db.near.step {D x T y U : Db} {K k : Nat} (h : D.near x T K) (hs : y.same U) (hm : ∃ n, n ≤ k ∧ Met x.mem.meter y.mem.meter n) : D.near y U (K + k) := by
  obtain ⟨n, h1, h2⟩ := h.met
  obtain ⟨m, h3, h4⟩ := hm
  exact ⟨hs, n + m, by omega, h2.trans h4⟩
theorem Db.near.tk {D x T : Db} {K k k' : Nat} (h : D.near x T K) (hk : k ≤ k') : D.near (x.tk k) T (K + k') :=
  h.step (⟨h.same.ents, h.same.births, Mem.tk_sec.trans h.same.sec, Mem.tk_ins.trans h.same.ins⟩) ⟨k, hk, Mem.tk_meter⟩
theorem Db.near.turn {D x T : Db} {K : Nat} (h : D.near x T K) {p t : Int} : D.near (x.turn p t).2 (T.turn p t).2 (K + 1024) := h.step h.same.turn.2 Db.turn_meter
theorem Db.near.wr {D x T : Db} {K : Nat} (h : D.near x T K) {p o : Int} {v : W} : D.near (x.wr p o v) (T.wr p o v) (K + 1) := h.step h.same.wr Mem.write_meter
theorem Db.near.put {D x T : Db} {K : Nat} (h : D.near x T K) {sp : Int} {va : W} {z : PMap} : D.near (putD x sp va z).2 (putD T sp va z).2 (K + 1) := by
  unfold putD
  rw [h.same.slot, h.same.find]
  split
  · exact h.le (by omega)
  · split
    · exact h.le (by omega)
    · exact h.wr
theorem Db.near.cut {D x T : Db} {K : Nat} (h : D.near x T K) {sp : Int} {va : W} : D.near (cutD x sp va).2 (cutD T sp va).2 (K + 1) := by
  unfold cutD
  rw [h.same.find, h.same.pk]
  split
  · exact h.le (by omega)
  · split
    · exact h.le (by omega)
    · exact h.wr
theorem Db.near.addT {D x T : Db} {K : Nat} (h : D.near x T K) {sp ix l2 : Int} : D.near (addTableD x sp ix l2).2 (addTableD T sp ix l2).2 (K + 1) := by
  have e := h.same
  by_cases h1 : (tableD T sp).2 ≠ 0
  · rw [addT_1 h1, addT_1 (D := x) (by rw [e.table]; exact h1)]; exact h.le (by omega)
  · have h1' : ¬ (tableD x sp).2 ≠ 0 := by rw [e.table]; exact h1
    by_cases h2 : 0 ≤ ix ∧ ix < 256
    · by_cases h3 : T.has l2
      · by_cases h4 : ownsD T sp l2 4
        · by_cases h5 : T.pk (tableD T sp).1 ix ≠ 0#32
          · rw [addT_5 h1 h2 h3 h4 h5, addT_5 (D := x) h1' h2 (e.has.2 h3) (e.owns.2 h4) (by rw [e.table, e.pk]; exact h5)]; exact h.le (by omega)
          · rw [addT_6 h1 h2 h3 h4 h5, addT_6 (D := x) h1' h2 (e.has.2 h3) (e.owns.2 h4) (by rw [e.table, e.pk]; exact h5), e.table]; exact h.wr
        · rw [addT_4 h1 h2 h3 h4, addT_4 (D := x) h1' h2 (e.has.2 h3) (fun c => h4 (e.owns.1 c))]; exact h.le (by omega)
      · rw [addT_3 h1 h2 h3, addT_3 (D := x) h1' h2 (fun c => h3 (e.has.1 c))]; exact h.le (by omega)
    · rw [addT_2 h1 h2, addT_2 (D := x) h1' h2]; exact h.le (by omega)
end Go.Wd
