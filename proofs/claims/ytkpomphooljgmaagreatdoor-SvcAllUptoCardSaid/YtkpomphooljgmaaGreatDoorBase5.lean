/- PROVED HERE: rules of assertions with a footprint, and of the model's operations over them. No condition beyond each theorem's own. -/
import Derived.Test.YtkpomphooljgmaaGreatDoorBase4
import Derived.Laws.OwnMore
namespace Go.Wd
open Go

/-! ### slices that grow: owned, of whatever room -/
def GSl (E k : Nat) (v : Value) (n : Nat) (l : List Value) : Assn :=
  ⟨fun w F => w.ownsRow 0 E k v n l ∧ F = fun b => v.ownBlock = some b,
   fun {w w' F} ⟨h, hF⟩ hk => ⟨⟨h.1, by
      rcases h.2 with h1 | ⟨g, cap, cur, rfl, h2, h3, h4⟩
      · exact .inl h1
      · exact .inr ⟨g, cap, cur, rfl, h2, by rw [hk g (by rw [hF]; rfl)]; exact h3, h4⟩⟩, hF⟩,
   fun {w F} ⟨h, hF⟩ b hb => by subst hF; exact (h.lt b hb).2⟩

theorem GSl.nil {σ : Env} {L : List Assn} {R : Assn} {w : World} {E k : Nat} (h : Own σ L R w) : Own σ (GSl E k (.slice none 0 0) 0 [] :: L) R w := by
  obtain ⟨he, F, hF⟩ := h
  refine ⟨he, F, Assn.sep_assoc' ⟨fun _ => False, F, ⟨World.ownsRow_nil w 0 E k, by funext b; simp [Value.ownBlock]⟩, hF, fun _ h => h.elim, by funext b; simp⟩⟩
theorem GSl.emp {L : List Assn} {E k : Nat} : Ent L (GSl E k (.slice none 0 0) 0 [] :: L) := fun _ _ _ h => GSl.nil h
theorem GSl.row {E k g n cap : Nat} {l j : List Value} {L : List Assn} (hl : l.length = n * k) (hn : n ≤ cap) (hc : cap ≤ maxLen) (hj : (l ++ j).length = cap * k) : Ent (.row g (l ++ j) E :: L) (GSl E k (.slice (some ⟨g, 0, none⟩) n cap) n l :: L) := by
  rintro σ R w ⟨he, F, hF⟩
  refine ⟨he, F, Assn.sep_mono (fun F h => Assn.sep_mono (fun F h => ?_) (fun F h => h) h) (fun F h => h) hF⟩
  obtain ⟨rfl, ho⟩ := h
  refine ⟨⟨hl, .inr ⟨g, cap, (l ++ j).toArray, rfl, Nat.zero_le _, ho, hn, hc, by simpa using hj, ?_⟩⟩, ?_⟩
  · rw [← hl]; simp
  · funext b; simp [Value.ownBlock]; exact eq_comm
theorem GSl.openE {E k n : Nat} {v : Value} {l : List Value} {L : List Assn} : Ent (GSl E k v n l :: L) (.ex (fun x : Option (Nat × Nat × List Value) => match x with
    | none => .fact (v = .slice none 0 0 ∧ n = 0 ∧ l = [])
    | some (g, cap, j) => .all [.fact (v = .slice (some ⟨g, 0, none⟩) n cap ∧ l.length = n * k ∧ n ≤ cap ∧ cap ≤ maxLen ∧ (l ++ j).length = cap * k), .row g (l ++ j) E]) :: L) := by
  rintro σ R w ⟨he, F, hF⟩
  refine ⟨he, F, Assn.sep_mono (fun F h => Assn.sep_mono (fun F h => ?_) (fun F h => h) h) (fun F h => h) hF⟩
  obtain ⟨h, rfl⟩ := h
  rcases h.2 with ⟨rfl, rfl⟩ | ⟨g, cap, cur, rfl, h2, h3, h4, h5, h6, h7⟩
  · exact ⟨none, ⟨rfl, rfl, List.eq_nil_of_length_eq_zero (by simpa using h.1)⟩, by funext b; simp [Value.ownBlock]⟩
  · have e : l ++ cur.toList.drop (n * k) = cur.toList := by rw [← h7]; exact List.take_append_drop _ _
    refine ⟨some (g, cap, cur.toList.drop (n * k)), fun _ => False, fun b => (Value.slice (some ⟨g, 0, none⟩) n cap).ownBlock = some b, ⟨⟨rfl, h.1, h4, h5, by rw [e]; simpa using h6⟩, rfl⟩, ⟨fun b => b = g, fun _ => False, ⟨rfl, ?_⟩, rfl, fun _ _ h => h, ?_⟩, fun _ h => h.elim, by funext b; simp⟩
    · rw [e]; simpa using h3
    · funext b; simp [Value.ownBlock]; exact eq_comm

section
variable {P : Program} {n : Nat} {σ : Env} {R : Assn} {Q : Exit → Act → World → Prop} {s : Slots} {L L' L'' : List Assn} {ops : Array Oper} {l : List Oper} {ty : Nat} {pos : String} {af : Array Edge}
theorem TL.effEx {X : Type} {d : Nat} {op : Op} {v : X → Value} {L' : X → List Assn} (hn : Nat.blt d n = true)
    (hr : ∀ a w, Sl n s a → Own σ L R w → ∀ o : Oper, o.op = op → ∃ b w', (execOp a.eval o).run P w = .ok (.value (v b)) w' ∧ Own σ (L' b) R w')
    (h : ∀ b, TL P n σ R ops Q l ((d, v b) :: s) (L' b)) : TL P n σ R ops Q (⟨some d, op, ty, pos, af, none⟩ :: l) s L := fun a w hs hw =>
  wpList_plain rfl fun K hK => by
    obtain ⟨b, w', h1, h2⟩ := hr a w hs hw ⟨some d, op, ty, pos, af, none⟩ rfl
    unfold Oper.wp
    rw [h1, Oper.upon_value]
    exact hK _ _ (h b _ _ (hs.put _ hn) h2)
end

theorem Own.gslAlloc {σ : Env} {L : List Assn} {R : Assn} {w w' : World} {E k n' : Nat} {v' : Value} {l' : List Value} (h : Own σ L R w) (hg : w.grownBy w' none) (ho : w'.ownsRow w.heap.size E k v' n' l') : Own σ (GSl E k v' n' l' :: L) R w' := by
  obtain ⟨he, F, hF⟩ := h
  have hF' := (Assn.sep (Assn.all L) R).loc (w' := w') hF (fun b hb => hg.block b ((Assn.sep (Assn.all L) R).lt hF b hb) (by simp))
  refine ⟨⟨hg.os.trans he.1, hg.tape.trans he.2.1, hg.output.trans he.2.2⟩, _, Assn.sep_assoc' ⟨fun b => v'.ownBlock = some b, F, ⟨⟨ho.1, ?_⟩, rfl⟩, hF', ?_, rfl⟩⟩
  · rcases ho.2 with h1 | ⟨g, cap, cur, h1, _, h2⟩
    · exact .inl h1
    · exact .inr ⟨g, cap, cur, h1, Nat.zero_le _, h2⟩
  · intro b hb hb'
    have h1 := (ho.lt b hb).1
    have h2 := (Assn.sep (Assn.all L) R).lt hF b hb'
    omega

theorem GSl.cell {E k n : Nat} {v : Value} {l : List Value} {w : World} (h : Holds (GSl E k v n l) w) : isCell v = true := by
  obtain ⟨F, h, _⟩ := h
  rcases h.2 with ⟨rfl, _⟩ | ⟨g, cap, cur, rfl, _⟩ <;> rfl
/-- append of elements that lie in a row -/
theorem run_append_gsl {P : Program} {σ : Env} {L L1 : List Assn} {R : Assn} {w : World} {t ty E k bytes n m c g off : Nat} {i : TypeInfo} {z v : Value} {l us : List Value} (ht : P.underlying t = some (.slice E)) (hi : P.info? E = some i) (hz : i.zero = some z) (hs : i.size = k) (hb : i.bytes = bytes)
    (hzs : z.cells.size = k) (hk : 0 < k) (h : Own σ L R w) (hm : Take L (GSl E k v n l) L1) (hl : us.length = m * k) (hnews : ∀ j u, us[j]? = some u → w.cell? ((⟨g, off, none⟩ : Addr).add j) = some u) (hv : us.all isCell = true)
    (h63 : n + m ≤ maxLen) (hbytes : (n + m) * bytes ≤ 140737488355328) :
    ∃ v' w', (Builtin.append_ #[t, t] ty #[v, .slice (some ⟨g, off, none⟩) m c]).run P w = .ok v' w' ∧ Own σ (GSl E k v' (n + m) (l ++ us) :: L1) R w' := by
  have h1 : ∀ u ∈ us, u.oneCell' = true := fun u hu => isCell_one (List.all_eq_true.1 hv u hu)
  obtain ⟨F0, hF0⟩ := h.holds hm
  obtain ⟨hown, rfl⟩ := hF0
  rcases hown.2 with ⟨rfl, rfl⟩ | ⟨b, cap, cur, rfl, hbg, hg, hnc, hcm, hcs, htake⟩
  · have hL : Own σ L1 R w := by
      obtain ⟨he, F, hF⟩ := h
      obtain ⟨F1, F2, _, h2, _⟩ := Assn.sep_assoc (Assn.sep_mono (fun F h => hm.all h) (fun F h => h) hF)
      exact ⟨he, F2, h2⟩
    have hx : l = [] := List.eq_nil_of_length_eq_zero (by simpa using hown.1)
    subst hx
    obtain ⟨v', w', hr, ho, hgr, _⟩ := run_append_own (P := P) w w.heap.size t ty E i z k bytes ht hi hz hs hb hzs hk _ 0 [] (World.ownsRow_nil w _ E k) ⟨g, off, none⟩ m c us hl hnews h1 h63 hbytes (Nat.le_refl _)
    exact ⟨v', w', hr, Own.gslAlloc (L := L1) hL hgr ho⟩
  · subst hs; subst hb
    by_cases hroom : n + m ≤ cap
    · have hfit : n * i.size + us.length ≤ cur.size := by rw [hl, hcs, ← Nat.add_mul]; exact Nat.mul_le_mul_right _ hroom
      refine ⟨_, _, run_append_room (P := P) w t ty E i ht hi b n cap cur hg ⟨g, off, none⟩ m c us hl hnews h1 hroom hfit, ?_⟩
      obtain ⟨he, F, hF⟩ := h
      obtain ⟨F1, F2, ⟨_, rfl⟩, h2, hd, rfl⟩ := Assn.sep_assoc (Assn.sep_mono (fun F h => hm.all h) (fun F h => h) hF)
      refine ⟨he, _, Assn.sep_assoc' ⟨fun x => some b = some x, F2, ⟨⟨by rw [List.length_append, hown.1, hl, Nat.add_mul], .inr ⟨b, cap, _, rfl, Nat.zero_le _, setRow_heap w b cur _ E _ hg, hroom, hcm, ?_, ?_⟩⟩, ?_⟩, ?_, ?_, rfl⟩⟩
      · simp only [List.size_toArray, List.length_append, List.length_take, List.length_drop, Array.length_toList]; omega
      · rw [htake]
        have : (l ++ us).length = (n + m) * i.size := by rw [List.length_append, hown.1, hl, Nat.add_mul]
        rw [← this]; exact List.take_left
      · funext x; simp [Value.ownBlock]
      · exact (Assn.sep (Assn.all L1) R).loc h2 (fun x hx => setRow_other w b x _ (fun e => hd x (by simp [Value.ownBlock, e]) hx))
      · intro x hx hx2; exact hd x (by simpa [Value.ownBlock] using hx) hx2
    · have holds : ∀ j u, l[j]? = some u → w.cell? ((⟨b, 0, none⟩ : Addr).add j) = some u := hown.cells (g := b) rfl
      refine ⟨_, _, run_append_grow (P := P) w t ty E i z ht hi hz ⟨b, 0, none⟩ n cap l hown.1 holds ⟨g, off, none⟩ m c us hl hnews (by omega) (by simp only [maxLen] at h63; omega) (growslice_fits (by omega) hbytes), ?_⟩
      have hL : Own σ L1 R w := by
        obtain ⟨he, F, hF⟩ := h
        obtain ⟨F1, F2, _, h2, _⟩ := Assn.sep_assoc (Assn.sep_mono (fun F h => hm.all h) (fun F h => h) hF)
        exact ⟨he, F2, h2⟩
      refine Own.gslAlloc (L := L1) hL ⟨rfl, rfl, rfl, by simp, fun x hx _ => heap_alloc_old w.drew _ hx⟩ ?_
      have hge := grownCap_ge w (n + m) cap E
      have hcm := grownCap_le_maxLen w (n + m) cap E h63
      refine ⟨by rw [List.length_append, hown.1, hl, Nat.add_mul], .inr ⟨w.heap.size, _, _, rfl, Nat.le_refl _, heap_alloc_new w.drew _, hge, hcm, ?_, ?_⟩⟩
      · simp only [Array.size_append, List.size_toArray, size_zeroCells, hzs, hown.1, hl, ← Nat.add_mul]
        congr 1; omega
      · simp only [Array.toList_append]
        have : (l ++ us).length = (n + m) * i.size := by rw [List.length_append, hown.1, hl, Nat.add_mul]
        rw [← this]; exact List.take_left

section
variable {P : Program} {n : Nat} {σ : Env} {R : Assn} {Q : Exit → Act → World → Prop} {s : Slots} {L L' L1 : List Assn} {ops : Array Oper} {l : List Oper} {ty : Nat} {pos : String} {af : Array Edge}
theorem TL.append {d t E k bytes n0 m c g off T' : Nat} {i : TypeInfo} {z v : Value} {xs us ls : List Value} {x y : Operand} (ht : P.underlying t = some (.slice E)) (hi : ∀ w, (typeInfo E).run P w = .ok i w) (hz : i.zero = some z) (hs : i.size = k) (hb : i.bytes = bytes)
    (hzs : z.cells.size = k) (hk : 0 < k) (hx : ev s x = some v) (hy : ev s y = some (.slice (some ⟨g, off, none⟩) m c)) (hm : Take L (GSl E k v n0 xs) L1) (hg : Take L (.row g ls T') L') (hc : (ls.drop off).take (m * k) = us) (hl : us.length = m * k) (hv : us.all isCell = true)
    (h63 : (n0 + m) * (bytes + 1) ≤ 140737488355328) (hn : Nat.blt d n = true)
    (h : ∀ v', isCell v' = true → TL P n σ R ops Q l ((d, v') :: s) (GSl E k v' (n0 + m) (xs ++ us) :: L1)) : TL P n σ R ops Q (⟨some d, .call ⟨.builtin .append, #[x, y], #[t, t]⟩, ty, pos, af, none⟩ :: l) s L :=
  TL.effEx (X := {v : Value // isCell v = true}) (v := fun v' => v'.1) (L' := fun v' => GSl E k v'.1 (n0 + m) (xs ++ us) :: L1) hn (fun a w hsl hw o ho => by
    have hrow := (hw.holds hg).blk
    have h1 : (n0 + m) * bytes ≤ 140737488355328 := Nat.le_trans (Nat.mul_le_mul_left _ (by omega)) h63
    have h2 : n0 + m ≤ 140737488355328 := Nat.le_trans (Nat.le_mul_of_pos_right _ (by omega)) h63
    obtain ⟨v', w', hr, ho2⟩ := run_append_gsl (P := P) (t := t) (ty := o.type) (c := c) (g := g) (off := off) (m := m) (us := us) ht (info_of hi) hz hs hb hzs hk hw hm hl (fun j u hj => by
      rw [add_none, row_cell hrow]
      rw [← hc] at hj
      rw [List.getElem?_take] at hj
      split at hj
      · rw [List.getElem?_drop] at hj; exact hj
      · cases hj) hv (by simp only [maxLen]; omega) h1
    refine ⟨⟨v', GSl.cell (ho2.holds .here)⟩, w', ?_, ho2⟩
    rw [execOp_builtin' _ o _ _ _ ho]
    simp only [List.map_toArray, List.map_cons, List.map_nil, hsl.ev hx, hsl.ev hy]
    exact run_v hr) (fun v' => h v'.1 v'.2)
end
section
variable {P : Program} {n : Nat} {σ : Env} {R : Assn} {Q : Exit → Act → World → Prop} {s : Slots} {L L1 : List Assn} {c : Code} {H : List Assn}
theorem Val.lenG {E k m T : Nat} {v : Value} {xs : List Value} {x : Operand} {H' : List Assn} (hu : P.underlying T = some (.slice E)) (hx : ev s x = some v) (hm : Take H (GSl E k v m xs) H') : Val P H s (.call ⟨.builtin .len, #[x], #[T]⟩) (.int .i64 m) := fun n a w hs hw o ho => by
  obtain ⟨F, hF⟩ := hw.get hm
  obtain ⟨hown, _⟩ := hF
  have e : ∃ p c, v = .slice p m c := by
    rcases hown.2 with ⟨h1, h2⟩ | ⟨b, cap, cur, h1, _⟩
    · subst h2; exact ⟨_, _, h1⟩
    · exact ⟨_, _, h1⟩
  obtain ⟨p, c, rfl⟩ := e
  exact Val.len hu hx n a w hs hw o ho
end

theorem fold_all : ∀ (us zs pre : List Value), zs.length = us.length → (us.zipIdx pre.length).foldl (fun cs p => cs.setIfInBounds p.2 p.1) (pre ++ zs).toArray = (pre ++ us).toArray
  | [], [], pre, _ => rfl
  | u :: us, z :: zs, pre, h => by
    have ih := fold_all us zs (pre ++ [u]) (by simpa using h)
    simp only [List.zipIdx_cons, List.foldl_cons]
    have e : (pre ++ z :: zs).toArray.setIfInBounds pre.length u = (pre ++ [u] ++ zs).toArray := by simp
    rw [e]
    rw [List.length_append] at ih
    simpa using ih
  | [], _ :: _, _, h => by simp at h
  | _ :: _, [], _, h => by simp at h
theorem fill_one {z1 : Nat} {zs us : List Value} (hz : zs.length = z1) (hu : us.length = z1) : Instr.fill (fun i => some (i * z1, z1)) zs.toArray [(0, .agg us.toArray)] = some us.toArray := by
  have := fold_all us zs [] (by omega)
  simp [Instr.fill, Value.cells, hu, hz] at this ⊢
  simpa using this
section
variable {P : Program} {n : Nat} {σ : Env} {R : Assn} {Q : Exit → Act → World → Prop} {s : Slots} {L L' : List Assn} {ops : Array Oper} {l : List Oper} {ty : Nat} {pos : String} {af : Array Edge}
/-- a slice of one aggregate -/
theorem TL.buildSlice1 {d T E z1 : Nat} {x : Operand} {z : Value} {zs us : List Value} (hu : P.underlying T = some (.slice E)) (hk : ∀ w, (sizeOf E).run P w = .ok z1 w) (hz : ∀ w, (zeroValue E).run P w = .ok z w)
    (hx : ev s x = some (.agg us.toArray)) (hl : us.length = z1) (hsz : Nat.ble (1 * z1) 16777216 = true) (hpos : Nat.beq (1 * z1) 0 = false) (hzl : zs.length = z1) (hc : ((Array.range (1 * z1)).map fun i => z.cells[i % z.cells.size]!) = zs.toArray) (hn : Nat.blt d n = true)
    (h : ∀ g, TL P n σ R ops Q l ((d, .slice (some ⟨g, 0, none⟩) 1 1) :: s) (.row g us E :: L)) : TL P n σ R ops Q (⟨some d, .buildSlice T 1 #[(0, x)], ty, pos, af, none⟩ :: l) s L :=
  TL.buildSlice (parts := [(0, x)]) (pv := [(0, .agg us.toArray)]) hu hk hz (by simp [evp, hx]) hsz hpos hc (fill_one hzl hl) hn h
theorem TL.storeTo {x y : Operand} {T b off T' : Nat} {vs new : List Value} {v : Value} (hz : ∀ w, (sizeOf T).run P w = .ok 1 w)
    (hx : ev s x = some (.pointer (some ⟨b, off, none⟩))) (hy : ev s y = some v) (hv : isCell v = true) (hm : Upd L (.row b vs T') (.row b new T') L') (hnew : vs.set off v = new) (hl : off < vs.length)
    (h : TL P n σ R ops Q l s L') : TL P n σ R ops Q (⟨none, .store T x y, ty, pos, af, none⟩ :: l) s L := by
  subst hnew; exact TL.store hz hx hy hv hm (Nat.ble_eq_true_of_le hl) h
theorem TL.storeAggTo {x y : Operand} {T b off T' k : Nat} {vs us new : List Value} (hz : ∀ w, (sizeOf T).run P w = .ok k w)
    (hx : ev s x = some (.pointer (some ⟨b, off, none⟩))) (hy : ev s y = some (.agg us.toArray)) (hv : us.all isCell = true) (hk : us.length = k)
    (hm : Upd L (.row b vs T') (.row b new T') L') (hnew : vs.take off ++ us ++ vs.drop (off + k) = new) (hl : off + k ≤ vs.length)
    (h : TL P n σ R ops Q l s L') : TL P n σ R ops Q (⟨none, .store T x y, ty, pos, af, none⟩ :: l) s L := by
  subst hnew; exact TL.storeAgg hz hx hy hv hk hm (Nat.ble_eq_true_of_le hl) h
end
/-! ### items for the members of two lists -/
section
variable {α β : Type} (A : α → β → Assn)
def zipA : List α → List β → Assn
  | [], [] => .emp
  | a :: as, b :: bs => .sep (A a b) (zipA as bs)
  | _, _ => .fact False
def holeZ (as : List α) (bs : List β) (k : Nat) : Assn := .sep (zipA A (as.take k) (bs.take k)) (zipA A (as.drop (k + 1)) (bs.drop (k + 1)))
theorem zipA_split : ∀ {k : Nat} {as : List α} {bs : List β} {a : α} {b : β}, as[k]? = some a → bs[k]? = some b → Ent [zipA A as bs] [A a b, holeZ A as bs k]
  | 0, a' :: as, b' :: bs, a, b, ha, hb => by
    simp at ha hb; subst ha; subst hb
    refine Ent.trans Ent.sepLR (Ent.cons ?_)
    refine Ent.trans (Ent.empR) (Ent.trans Ent.sepR ?_)
    simp only [holeZ, List.take_zero, List.drop_succ_cons, List.drop_zero]
    exact Ent.refl _
  | k + 1, a' :: as, b' :: bs, a, b, ha, hb => by
    simp at ha hb
    have ih := zipA_split ha hb
    refine Ent.trans Ent.sepLR ?_
    refine Ent.trans (Ent.cons ih) ?_
    refine Ent.trans (Ent.perm (M := [A a b]) (rest := [A a' b', holeZ A as bs k]) (.cons (.there .here) .nil)) ?_
    refine Ent.cons ?_
    unfold holeZ
    simp only [List.take_succ_cons, List.drop_succ_cons]
    refine Ent.trans (Ent.cons Ent.sepLR) ?_
    refine Ent.trans ?_ Ent.sepR
    exact Ent.trans Ent.sepR (Ent.refl _)
theorem zipA_join : ∀ {k : Nat} {as : List α} {bs : List β} {a : α} {b : β}, k < as.length → k < bs.length → Ent [A a b, holeZ A as bs k] [zipA A (as.set k a) (bs.set k b)]
  | 0, a' :: as, b' :: bs, a, b, _, _ => by
    simp only [List.set_cons_zero, holeZ, List.take_zero, List.drop_succ_cons, List.drop_zero]
    refine Ent.trans (Ent.cons Ent.sepLR) ?_
    refine Ent.trans (Ent.pick (M := [A a b, zipA A as bs]) (.cons .here (.cons (.there .here) .nil))) ?_
    exact Ent.sepR
  | k + 1, a' :: as, b' :: bs, a, b, ha, hb => by
    simp at ha hb
    have ih := zipA_join (a := a) (b := b) ha hb
    simp only [List.set_cons_succ, holeZ, List.take_succ_cons, List.drop_succ_cons]
    refine Ent.trans (Ent.cons Ent.sepLR) ?_
    refine Ent.trans (Ent.cons Ent.sepLR) ?_
    refine Ent.trans (Ent.perm (M := [A a' b']) (rest := [A a b, zipA A (as.take k) (bs.take k), zipA A (as.drop (k + 1)) (bs.drop (k + 1))]) (.cons (.there .here) .nil)) ?_
    refine Ent.trans (Ent.cons (Ent.trans (Ent.cons Ent.sepR) ih)) ?_
    exact Ent.sepR
  | _, [], _, _, _, h, _ => by simp at h
  | _, _ :: _, [], _, _, _, h => by simp at h
theorem zipA_snoc {a : α} {b : β} : ∀ {as : List α} {bs : List β}, as.length = bs.length → Ent [A a b, zipA A as bs] [zipA A (as ++ [a]) (bs ++ [b])]
  | [], [], _ => Ent.sepR
  | a' :: as, b' :: bs, hl => by
    refine Ent.trans (Ent.cons Ent.sepLR) ?_
    refine Ent.trans (Ent.perm (M := [A a' b']) (.cons (.there .here) .nil)) ?_
    refine Ent.trans (Ent.cons (zipA_snoc (by simpa using hl))) ?_
    exact Ent.sepR
  | [], _ :: _, h => by simp at h
  | _ :: _, [], h => by simp at h
end
end Go.Wd
