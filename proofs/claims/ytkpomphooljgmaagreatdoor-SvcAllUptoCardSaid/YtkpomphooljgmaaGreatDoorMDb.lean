/- PROVED HERE: the plain law: what the functions compute, with no program in sight. No condition beyond each theorem's own. -/
import Derived.Test.YtkpomphooljgmaaGreatDoorMEntry
namespace Go.Wd
open Go
/-! the database of the pages -/
structure Db where
  mem : Mem
  births : Int
  ents : List Ety
def hasE (es : List Ety) (p : Int) : Prop := 0 ≤ p ∧ p < es.length
instance (es : List Ety) (p : Int) : Decidable (hasE es p) := by unfold hasE; infer_instance
def atE (es : List Ety) (p : Int) : Ety := (es[p.toNat]?).getD .free
def setE (es : List Ety) (p : Int) (e : Ety) : List Ety := es.set p.toNat e
def spaceE (es : List Ety) (p : Int) : Prop := hasE es p ∧ (atE es p).ty = 1
instance (es : List Ety) (p : Int) : Decidable (spaceE es p) := by unfold spaceE; infer_instance
def okE (es : List Ety) : Prop := ∀ e ∈ es, e.ok ∧ e.own < es.length
abbrev Db.has (D : Db) (p : Int) : Prop := hasE D.ents p
abbrev Db.at (D : Db) (p : Int) : Ety := atE D.ents p
def Db.set (D : Db) (p : Int) (e : Ety) : Db := { D with ents := setE D.ents p e }
abbrev Db.space (D : Db) (p : Int) : Prop := spaceE D.ents p
structure Db.ok (D : Db) : Prop where
  len : D.ents.length = D.mem.sec.length
  ent : okE D.ents
  births : 0 ≤ D.births ∧ D.births ≤ 64
  pages : 1 ≤ D.ents.length ∧ D.ents.length ≤ 64
def encs (es : List Ety) : List W := es.flatMap (·.enc)
theorem encs_len {es : List Ety} : (encs es).length = 2 * es.length := by
  induction es with
  | nil => rfl
  | cons e es ih => simp [encs] at ih ⊢; omega
theorem w32s_append {a b : List W} : w32s (a ++ b) = w32s a ++ w32s b := by simp [w32s]
theorem encs_drop {es : List Ety} : ∀ {k : Nat} {e : Ety}, es[k]? = some e → (encs es).drop (2 * k) = e.enc ++ encs (es.drop (k + 1)) := by
  induction es with
  | nil => intro k e h; simp at h
  | cons a es ih =>
    intro k e h
    cases k with
    | zero => simp at h; subst h; rfl
    | succ k =>
      have := ih (k := k) (e := e) (by simpa using h)
      show (a.e0 :: a.e1 :: encs es).drop (2 * (k + 1)) = _
      rw [show 2 * (k + 1) = 2 * k + 1 + 1 from rfl, List.drop_succ_cons, List.drop_succ_cons, this]; rfl
theorem encs_take {es : List Ety} : ∀ {k : Nat}, (encs es).take (2 * k) = encs (es.take k) := by
  induction es with
  | nil => intro k; simp [encs]
  | cons a es ih =>
    intro k
    cases k with
    | zero => rfl
    | succ k =>
      show (a.e0 :: a.e1 :: encs es).take (2 * (k + 1)) = _
      rw [show 2 * (k + 1) = 2 * k + 1 + 1 from rfl, List.take_succ_cons, List.take_succ_cons, ih]; rfl
theorem encs_get {es : List Ety} {k : Nat} {e : Ety} (h : es[k]? = some e) : ((w32s (encs es)).drop (2 * k)).take 2 = [w32 e.e0, w32 e.e1] := by
  have : (w32s (encs es)).drop (2 * k) = w32s ((encs es).drop (2 * k)) := by simp [w32s, List.map_drop]
  rw [this, encs_drop h]; rfl
theorem encs_append {a b : List Ety} : encs (a ++ b) = encs a ++ encs b := by simp [encs]
theorem encs_set {es : List Ety} {k : Nat} {e : Ety} (h : k < es.length) : (w32s (encs es)).take (2 * k) ++ [w32 e.e0, w32 e.e1] ++ (w32s (encs es)).drop (2 * k + 2) = w32s (encs (es.set k e)) := by
  have e1 : (w32s (encs es)).take (2 * k) = w32s ((encs es).take (2 * k)) := by simp [w32s, List.map_take]
  have e2 : (w32s (encs es)).drop (2 * k + 2) = w32s (((encs es).drop (2 * k)).drop 2) := by simp [w32s, List.map_drop]
  have h3 : es[k]? = some es[k] := List.getElem?_eq_getElem h
  rw [e1, e2, encs_take, encs_drop h3, show [w32 e.e0, w32 e.e1] = w32s (encs [e]) from rfl]
  rw [List.set_eq_take_append_cons_drop, if_pos h, show es.take k ++ e :: es.drop (k + 1) = es.take k ++ [e] ++ es.drop (k + 1) by simp, encs_append, encs_append, w32s_append, w32s_append]; rfl
theorem setE_len {es : List Ety} {p : Int} {e : Ety} : (setE es p e).length = es.length := by simp [setE]
theorem atE_get {es : List Ety} {p : Int} (h : hasE es p) : es[p.toNat]? = some (atE es p) := by
  unfold atE
  rw [List.getElem?_eq_getElem (by have := h.2; have := h.1; omega)]; rfl
theorem okE.ok {es : List Ety} (h : okE es) {p : Int} (hp : hasE es p) : (atE es p).ok := (h _ (List.mem_of_getElem? (atE_get hp))).1
theorem okE.own {es : List Ety} (h : okE es) {p : Int} (hp : hasE es p) : hasE es (atE es p).own := ⟨by have := h.ok hp; unfold Ety.ok at this; omega, (h _ (List.mem_of_getElem? (atE_get hp))).2⟩
theorem okE.set {es : List Ety} (h : okE es) {p : Int} {e : Ety} (he : e.ok) (ho : e.own < es.length) : okE (setE es p e) := fun f hf => by
  rw [setE_len]
  rcases List.mem_or_eq_of_mem_set hf with h1 | rfl
  · exact h f h1
  · exact ⟨he, ho⟩
theorem hasE_set {es : List Ety} {p q : Int} {e : Ety} : hasE (setE es p e) q ↔ hasE es q := by unfold hasE; rw [setE_len]
theorem atE_set {es : List Ety} {p q : Int} {e : Ety} (hp : hasE es p) (hq : hasE es q) : atE (setE es p e) q = if p = q then e else atE es q := by
  unfold atE setE
  simp only [List.getElem?_set]
  have h1 := hp.1; have h2 := hq.1; have h3 := hp.2
  by_cases h : p = q
  · subst h; simp [show p.toNat < es.length by omega]
  · have : p.toNat ≠ q.toNat := by omega
    simp [h, this]
theorem Db.set_len {D : Db} {p : Int} {e : Ety} : (D.set p e).ents.length = D.ents.length := setE_len
theorem Db.ok.set {D : Db} (h : D.ok) {p : Int} {e : Ety} (he : e.ok) (ho : e.own < D.ents.length) : (D.set p e).ok where
  len := by rw [Db.set_len]; exact h.len
  ent := okE.set h.ent he ho
  births := h.births
  pages := by rw [Db.set_len]; exact h.pages
theorem Db.ok.mem {D : Db} (h : D.ok) {M : Mem} (hl : M.sec.length = D.mem.sec.length) : Db.ok { D with mem := M } := ⟨h.len.trans hl.symm, h.ent, h.births, h.pages⟩
theorem Mem.setPage_len {M : Mem} {sec : Bool} {pg : Int} {g : List W} : (M.setPage sec pg g).sec.length = M.sec.length ∧ (M.setPage sec pg g).ins.length = M.ins.length := by cases sec <;> simp [Mem.setPage]
theorem Mem.write_len {M : Mem} {s : Bool} {p o : Int} {v : W} : (M.write s p o v).2.sec.length = M.sec.length ∧ (M.write s p o v).2.ins.length = M.ins.length := by
  unfold Mem.write
  split
  · exact Mem.setPage_len
  · exact ⟨rfl, rfl⟩
theorem Mem.zero_len {M : Mem} {s : Bool} {p : Int} : (M.zero s p).2.sec.length = M.sec.length ∧ (M.zero s p).2.ins.length = M.ins.length := by
  unfold Mem.zero
  split
  · exact Mem.setPage_len
  · exact ⟨rfl, rfl⟩
theorem Mem.has_write {M : Mem} {s s' : Bool} {p o q : Int} {v : W} : (M.write s p o v).2.has s' q ↔ M.has s' q := by
  have := @Mem.write_len M s p o v
  cases s' <;> simp [Mem.has, Mem.pgs, this]
theorem Mem.has_zero {M : Mem} {s s' : Bool} {p q : Int} : (M.zero s p).2.has s' q ↔ M.has s' q := by
  have := @Mem.zero_len M s p
  cases s' <;> simp [Mem.has, Mem.pgs, this]
theorem Db.ok.has {D : Db} (h : D.ok) {p : Int} : D.mem.has true p ↔ D.has p := by unfold Mem.has Db.has hasE Mem.pgs; rw [h.len]
/-! what the calls do -/
def Db.takeSpace (D : Db) (sp fi : Int) : Int × Db :=
  if ¬ (D.has sp ∧ D.has fi) then (5, D) else if sp = fi then (1, D) else if ¬ ((D.at sp).ty = 0 ∧ (D.at fi).ty = 0) then (120, D) else if 64 ≤ D.births then (240, D) else
  (0, ⟨(((D.mem.write true sp 0 (BitVec.ofInt 32 fi)).2.write true sp 1 (BitVec.ofInt 32 D.births)).2.write true sp 2 0).2, D.births + 1, setE (setE D.ents sp ⟨1, sp, 1, 1, false⟩) fi ⟨3, sp, 0, 0, false⟩⟩)
def turns (t : Int) : Prop := t = 4 ∨ t = 5 ∨ t = 6
instance (t : Int) : Decidable (turns t) := by unfold turns; infer_instance
def Db.addRefs (D : Db) (sp k : Int) : Db := D.set sp { D.at sp with refs := (D.at sp).refs + k }
def Db.take (D : Db) (p t sp : Int) : Int × Db :=
  if ¬ D.has p then (5, D) else if t ≠ 2 ∧ ¬ turns t then (124, D) else if ¬ D.space sp ∨ 63 ≤ (D.at sp).refs then (122, D) else if (D.at p).ty ≠ 0 then (120, D) else
  (0, (D.set p ⟨t, sp, 0, 0, false⟩).addRefs sp 1)
def Db.turn (D : Db) (p t : Int) : Int × Db :=
  if ¬ D.has p then (5, D) else if ¬ (turns (D.at p).ty ∧ turns t) then (124, D) else (0, { D.set p { D.at p with ty := t } with mem := (D.mem.zero true p).2 })
def Db.give (D : Db) (p : Int) : Int × Db :=
  if ¬ D.has p then (5, D) else if (D.at p).ty = 0 then (121, D) else if (D.at p).ty = 1 ∧ 0 < (D.at p).refs then (123, D) else
  let D1 := D.set p .free
  let D2 := if (D.at p).ty ≠ 1 ∧ D1.space (D.at p).own ∧ 0 < (D1.at (D.at p).own).refs then D1.addRefs (D.at p).own (-1) else D1
  (0, { D2 with mem := (D.mem.zero true p).2 })
def Db.setState (D : Db) (p st : Int) : Int × Db :=
  if ¬ D.has p then (5, D) else if (D.at p).ty ≠ 1 then (124, D) else if st ≠ 3 ∧ ((D.at p).st ≠ 1 ∨ st ≠ 2) then (3, D) else (0, D.set p { D.at p with st := st })
def Db.setEntered (D : Db) (p : Int) (on : Bool) : Int × Db :=
  if ¬ D.has p then (5, D) else if (D.at p).ty ≠ 2 then (124, D) else (0, D.set p { D.at p with ent := on })
def Db.words (D : Db) : List W := BitVec.ofInt 32 D.births :: encs D.ents
def Db.get (D : Db) (p : Int) : Ety × Int := if D.has p then (D.at p, 0) else (.free, 5)
theorem Ety.ok_turn {e : Ety} (h : e.ok) {t : Int} (h1 : turns e.ty) (h2 : turns t) : Ety.ok { e with ty := t } := by
  obtain ⟨ty, own, refs, st, ent⟩ := e; unfold Ety.ok turns at *; cases ent <;> simp at * <;> omega
theorem Ety.ok_refs {e : Ety} (h : e.ok) {k : Int} (h1 : e.ty = 1) (h2 : 0 ≤ e.refs + k ∧ e.refs + k ≤ 63) : Ety.ok { e with refs := e.refs + k } := by
  obtain ⟨ty, own, refs, st, ent⟩ := e; unfold Ety.ok at *; cases ent <;> simp at * <;> omega
theorem Ety.ok_state {e : Ety} (h : e.ok) {k : Int} (h1 : e.ty = 1) (h2 : k = 2 ∨ k = 3) : Ety.ok { e with st := k } := by
  obtain ⟨ty, own, refs, st, ent⟩ := e; unfold Ety.ok at *; cases ent <;> simp at * <;> omega
theorem Ety.ok_entered {e : Ety} (h : e.ok) {on : Bool} (h1 : e.ty = 2) : Ety.ok { e with ent := on } := by
  obtain ⟨ty, own, refs, st, ent⟩ := e; unfold Ety.ok at *; simp at *; omega
theorem Ety.ok_new {t sp : Int} (h : t = 2 ∨ turns t ∨ t = 3) (hs : 0 ≤ sp ∧ sp ≤ 63) : Ety.ok ⟨t, sp, 0, 0, false⟩ := by
  unfold Ety.ok turns at *; simp; omega
theorem words_zero {n : Nat} : List.replicate (2 * n) (Value.int .u32 0) = w32s (encs (List.replicate n .free)) := by
  induction n with
  | zero => rfl
  | succ n ih =>
    rw [show 2 * (n + 1) = 2 * n + 1 + 1 from rfl, List.replicate_succ, List.replicate_succ, ih]; rfl
/-- zero is written to the pages below n -/
def Mem.wipe (M : Mem) : Nat → Mem
  | 0 => M
  | n + 1 => ((M.wipe n).zero true n).2
theorem Mem.wipe_len {M : Mem} {n : Nat} : (M.wipe n).sec.length = M.sec.length ∧ (M.wipe n).ins.length = M.ins.length := by
  induction n with
  | zero => exact ⟨rfl, rfl⟩
  | succ n ih => exact ⟨Mem.zero_len.1.trans ih.1, Mem.zero_len.2.trans ih.2⟩
def Db.new (M : Mem) : Db := ⟨M.wipe M.sec.length, 0, List.replicate M.sec.length .free⟩
theorem Db.new_ok {M : Mem} (h : M.sec.length ≤ 64) (h0 : 1 ≤ M.sec.length) : (Db.new M).ok where
  len := by simp [Db.new, Mem.wipe_len]
  ent := fun e he => by
    obtain ⟨_, rfl⟩ := List.mem_replicate.1 he
    exact ⟨by decide, by simp [Db.new, Ety.free]; omega⟩
  births := by simp [Db.new]
  pages := by simp only [Db.new, List.length_replicate]; omega
def wAt (ws : List W) (i : Nat) : W := (ws[i]?).getD 0
def decAt (ws : List W) (p : Nat) : Ety × Int := Ety.dec (wAt ws (1 + 2 * p)) (wAt ws (2 + 2 * p))
def entryOk (n : Nat) (e : Ety × Int) : Prop := e.2 = 0 ∧ 0 ≤ e.1.own ∧ e.1.own < n
instance (n : Nat) (e : Ety × Int) : Decidable (entryOk n e) := by unfold entryOk; infer_instance
def Db.loadE (M : Mem) (ws : List W) : Db := ⟨M, (wAt ws 0).toNat, (List.range M.sec.length).map fun p => (decAt ws p).1⟩
def Db.loadOk (M : Mem) (ws : List W) : Prop := ws.length = 1 + 2 * M.sec.length ∧ (wAt ws 0).toNat ≤ 64 ∧ ∀ p, p < M.sec.length → entryOk M.sec.length (decAt ws p)
theorem encs_dec {ws : List W} : ∀ {n k : Nat}, (∀ p, p < n → (decAt ws (k + p)).2 = 0) → ws.length = 1 + 2 * (k + n) → encs ((List.range' k n).map fun p => (decAt ws p).1) = ws.drop (1 + 2 * k)
  | 0, k, _, hl => by rw [List.drop_eq_nil_of_le (by omega)]; rfl
  | n + 1, k, h, hl => by
    have ih := encs_dec (ws := ws) (n := n) (k := k + 1) (fun p hp => by have := h (p + 1) (by omega); rwa [show k + 1 + p = k + (p + 1) by omega]) (by omega)
    have h0 := h 0 (by omega)
    rw [Nat.add_zero] at h0
    have hd := Ety.dec_ok (a := wAt ws (1 + 2 * k)) (b := wAt ws (2 + 2 * k)) (e := (decAt ws k).1) (by rw [← h0]; rfl)
    rw [List.range'_succ, List.map_cons]
    show (decAt ws k).1.e0 :: (decAt ws k).1.e1 :: encs _ = _
    rw [ih]
    have e0 : (decAt ws k).1.e0 = wAt ws (1 + 2 * k) := by unfold Ety.e0; rw [if_pos hd.1]; exact hd.2.1
    have e1 : (decAt ws k).1.e1 = wAt ws (2 + 2 * k) := by unfold Ety.e1; rw [if_pos hd.1]; exact hd.2.2
    rw [e0, e1, List.drop_eq_getElem_cons (i := 1 + 2 * k) (by omega), List.drop_eq_getElem_cons (i := 1 + 2 * k + 1) (by omega)]
    unfold wAt
    rw [List.getElem?_eq_getElem (by omega), List.getElem?_eq_getElem (by omega)]
    simp only [Option.getD_some]
    congr 2
    · congr 1; omega
theorem Db.load_ok {M : Mem} {ws : List W} (h : Db.loadOk M ws) (hp : 1 ≤ M.sec.length ∧ M.sec.length ≤ 64) : (Db.loadE M ws).ok where
  len := by simp [Db.loadE]
  ent := fun e he => by
    obtain ⟨p, hp, rfl⟩ := List.mem_map.1 he
    have h1 := h.2.2 p (by simpa using hp)
    refine ⟨(Ety.dec_ok (a := wAt ws (1 + 2 * p)) (b := wAt ws (2 + 2 * p)) (by rw [← h1.1]; rfl)).1, ?_⟩
    have := h1.2.2
    simp only [Db.loadE, List.length_map, List.length_range]; exact this
  births := ⟨Int.natCast_nonneg _, by have := h.2.1; simp only [Db.loadE]; omega⟩
  pages := by simpa [Db.loadE] using hp
theorem Db.load_words {M : Mem} {ws : List W} (h : Db.loadOk M ws) : encs (Db.loadE M ws).ents = ws.drop 1 := by
  unfold Db.loadE
  simp only [List.range_eq_range']
  exact encs_dec (n := M.sec.length) (k := 0) (fun p hp => by rw [Nat.zero_add]; exact (h.2.2 p hp).1) (by rw [Nat.zero_add]; exact h.1)
theorem words_two {ws : List W} {p : Nat} (h : 1 + 2 * p + 2 ≤ ws.length) : ((w32s (ws.drop 1)).drop (2 * p)).take 2 = [w32 (wAt ws (1 + 2 * p)), w32 (wAt ws (2 + 2 * p))] := by
  have e : (w32s (ws.drop 1)).drop (2 * p) = w32s (ws.drop (1 + 2 * p)) := by
    unfold w32s; rw [← List.map_drop, List.drop_drop]
  rw [e, List.drop_eq_getElem_cons (i := 1 + 2 * p) (by omega), List.drop_eq_getElem_cons (i := 1 + 2 * p + 1) (by omega)]
  unfold wAt
  rw [List.getElem?_eq_getElem (by omega), List.getElem?_eq_getElem (by omega)]
  simp only [w32s, List.map_cons, List.take_succ_cons, List.take_zero, Option.getD_some, show 2 + 2 * p = 1 + 2 * p + 1 by omega]
theorem w32s_head {ws : List W} (h : 0 < ws.length) : (w32s ws)[0]? = some (w32 (wAt ws 0)) := by
  cases ws with
  | nil => simp at h
  | cons a ws => rfl
theorem w32s_drop {ws : List W} {k : Nat} : (w32s ws).drop k = w32s (ws.drop k) := by simp [w32s, List.map_drop]
theorem w32s_take {ws : List W} {k : Nat} : (w32s ws).take k = w32s (ws.take k) := by simp [w32s, List.map_take]
theorem w32s_cells {ws : List W} : (w32s ws).all isCell = true := by simp [w32s, isCell]
end Go.Wd
