/- PROVED HERE: the arguments of this statement, opened. No condition beyond each theorem's own. -/
import Derived.Test.YtkpomphooljgmaaGreatDoorOpen
import Derived.Test.YtkpomphooljgmaaGreatDoorWLaw2
import Derived.Test.YtkpomphooljgmaaGreatDoorRows
import Derived.Test.YtkpomphooljgmaaGreatDoorBulk
namespace Go.Wd
open Go Go.ChangeShapes Go.WideShapes Go.Proofs Go.Proofs.YtkpomphooljgmaaGreatDoor
open Go.Proofs.YtkpomphooljgmaaGreatDoor.bulks (one_le part_le length_le slice_le slice_elems)
theorem c23 : Tryz.prog.cellsOf 23 = 1 := by kernel_rfl
theorem c3 : Tryz.prog.cellsOf 3 = 1 := by kernel_rfl
theorem c4 : Tryz.prog.cellsOf 4 = 1 := by kernel_rfl
theorem c31 : Tryz.prog.cellsOf 31 = 1 := by kernel_rfl
theorem c33 : Tryz.prog.cellsOf 33 = 6 := by kernel_rfl
theorem c35 : Tryz.prog.cellsOf 35 = 15 := by kernel_rfl
theorem c37 : Tryz.prog.cellsOf 37 = 19 := by kernel_rfl
theorem c39 : Tryz.prog.cellsOf 39 = 2 := by kernel_rfl
theorem c41 : Tryz.prog.cellsOf 41 = 25 := by kernel_rfl
theorem c24 : Tryz.prog.cellsOf 24 = 8 := by kernel_rfl
theorem word_of {z : Int} (h : (Lit.int .u32 z).wf = true) : Value.int .u32 z = w32 (BitVec.ofInt 32 z) := by
  have h1 := bounds_u32 h
  congr 1
  rw [BitVec.toNat_ofInt]; omega
theorem cut_next {cs p : List Value} {a k : Nat} (h : (cs.drop a).take k = p) : cs.drop a = p ++ cs.drop (a + k) := by
  rw [← h, ← List.drop_drop]; exact (List.take_append_drop k _).symm
section
variable {H : Type} {enc : TypeId × Value → H} {U : World}
abbrev RdT (enc : TypeId × Value → H) (U : World) (fuel t : Nat) (cs : List Value) (x : DataW H × List MemPlace) : Prop := DataW.trod enc Tryz.prog U 0 (fun _ => true) true fuel t cs = some x
theorem rd_word {m : Nat} {cs : List Value} {x : DataW H × List MemPlace} (h : RdT enc U m 23 cs x) : ∃ w : W, cs = [w32 w] := by
  obtain ⟨z, rfl, _, h1⟩ := DataW.trod_int Tryz.underlying23 h
  exact ⟨_, by rw [word_of h1]⟩
theorem rd_int {m : Nat} {cs : List Value} {x : DataW H × List MemPlace} (h : RdT enc U m 3 cs x) : ∃ z : Int, cs = [i64 z] := by
  obtain ⟨z, rfl, _, h1⟩ := DataW.trod_int Tryz.underlying3 h
  exact ⟨z, rfl⟩
theorem rd_bool {m : Nat} {cs : List Value} {x : DataW H × List MemPlace} (h : RdT enc U m 4 cs x) : ∃ b : Bool, cs = [.bool b] := by
  obtain ⟨b, rfl, _⟩ := DataW.trod_bool Tryz.underlying4 h
  exact ⟨b, rfl⟩
theorem rd_arr {m t n : Nat} {cs : List Value} {x : DataW H × List MemPlace} (ht : Tryz.prog.underlying t = some (.array n 23)) (hc : Tryz.prog.cellsOf t = n) (h : RdT enc U m t cs x) : ∃ f : Nat → W, cs = (List.range n).map fun i => w32 (f i) := by
  obtain ⟨xs, m', _, _, hl, hx, he⟩ := DataW.trod_array ht h
  have each : ∀ i, i < n → ∃ w : W, (cs.drop i).take 1 = [w32 w] := fun i hi => by
    have h1 := he i hi
    rw [c23, Nat.mul_one, List.getElem?_eq_getElem (by omega)] at h1
    exact rd_word h1
  refine ⟨fun i => if hi : i < n then Classical.choose (each i hi) else 0, ?_⟩
  apply List.ext_getElem?
  intro i
  by_cases hi : i < n
  · have h1 := Classical.choose_spec (each i hi)
    rw [List.getElem?_map, List.getElem?_range hi, Option.map_some]
    simp only [dif_pos hi]
    have h2 := congrArg (fun l : List Value => l[0]?) h1
    simp only [List.getElem?_cons_zero] at h2
    rw [← h2, List.getElem?_take_of_lt (by decide), List.getElem?_drop, Nat.add_zero]
  · rw [List.getElem?_eq_none (by omega), List.getElem?_eq_none (by simp; omega)]
theorem cut_one {us : List Value} {i : Nat} {u : Value} (h : cutK us 1 i = [u]) : us[i]? = some u := by
  have h2 := congrArg (fun l : List Value => l[0]?) h
  simp only [List.getElem?_cons_zero] at h2
  unfold cutK at h2
  rw [List.getElem?_take_of_lt (by decide), List.getElem?_drop, Nat.mul_one, Nat.add_zero] at h2
  exact h2
theorem cut_one' {us : List Value} {i : Nat} (h : i < us.length) : cutK us 1 i = [us[i]] := by
  unfold cutK
  rw [Nat.mul_one, List.drop_eq_getElem_cons h]; rfl
theorem rd_words {m : Nat} {v : Value} {x : DataW H × List MemPlace} (h : RdT enc U m 31 [v] x) : ∃ ws : List W, Rd (OldA U) v (w32s ws) ∧ isCell v = true ∧ ws.length ≤ Rows.uptoBulk x.1 := by
  obtain ⟨n, us, hS, hl, he⟩ := trod_elems Tryz.underlying31 c23 (by decide) h
  rw [Nat.mul_one] at hl
  have each : ∀ i, i < n → ∃ w : W, us[i]? = some (w32 w) := fun i hi => by
    rcases he with h0 | ⟨es, sp, _, _, h1⟩
    · omega
    · obtain ⟨m', y, h2, _⟩ := h1 i hi
      obtain ⟨w, hw⟩ := rd_word h2
      exact ⟨w, cut_one hw⟩
  refine ⟨(List.range n).map fun i => if hi : i < n then Classical.choose (each i hi) else 0, ?_, hS.cell, ?_⟩
  · have e : us = w32s ((List.range n).map fun i => if hi : i < n then Classical.choose (each i hi) else 0) := by
      apply List.ext_getElem?
      intro i
      by_cases hi : i < n
      · rw [Classical.choose_spec (each i hi)]
        unfold w32s
        rw [List.getElem?_map, List.getElem?_map, List.getElem?_range hi, Option.map_some, Option.map_some, dif_pos hi]
      · rw [List.getElem?_eq_none (by omega), List.getElem?_eq_none (by rw [w32s_length, List.length_map, List.length_range]; omega)]
    rw [← e]
    exact hS.rd hl
  · rw [List.length_map, List.length_range]
    rcases he with rfl | ⟨es, sp, h0, h1, _⟩
    · omega
    · have h2 := slice_le es sp
      rw [h0]; omega
theorem rd_streams {m : Nat} {v : Value} {x : DataW H × List MemPlace} (h : RdT enc U m 25 [v] x) : ∃ us S, Rd2 (OldA U) v us S ∧ S.length ≤ Rows.uptoBulk x.1 ∧ ∀ s ∈ S, s.length ≤ Rows.uptoBulk x.1 := by
  obtain ⟨n, us, hS, hl, he⟩ := trod_elems Tryz.underlying25 c31 (by decide) h
  rw [Nat.mul_one] at hl
  have each : ∀ i, i < us.length → ∃ ws : List W, Rd (OldA U) (us[i]?.getD .nilFunc) (w32s ws) ∧ ws.length ≤ Rows.uptoBulk x.1 := fun i hi => by
    rcases he with h0 | ⟨es, sp, h0, h4, h1⟩
    · omega
    · obtain ⟨m', y, h2, h3⟩ := h1 i (by omega)
      rw [cut_one' hi] at h2
      obtain ⟨ws, h5, _, h6⟩ := rd_words h2
      refine ⟨ws, by rw [List.getElem?_eq_getElem hi]; exact h5, ?_⟩
      have h7 := part_le (List.mem_of_getElem? h3)
      have h8 := slice_elems es sp
      rw [h0]; omega
  refine ⟨us, (List.range us.length).map fun i => if hi : i < us.length then Classical.choose (each i hi) else [], ⟨hS.rd hl, by simp, fun i u s hu hs => ?_⟩, ?_, fun s hs => ?_⟩
  · have hi := (List.getElem?_eq_some_iff.1 hu).1
    rw [List.getElem?_map, List.getElem?_range hi, Option.map_some, dif_pos hi] at hs
    cases hs
    have h1 := (Classical.choose_spec (each i hi)).1
    generalize Classical.choose (each i hi) = ws at h1 ⊢
    rwa [hu] at h1
  · rw [List.length_map, List.length_range, hl]
    rcases he with rfl | ⟨es, sp, h0, h1, _⟩
    · omega
    · have h2 := slice_le es sp
      rw [h0]; omega
  · obtain ⟨i, hi, rfl⟩ := List.mem_map.1 hs
    have hi := List.mem_range.1 hi
    rw [dif_pos hi]
    exact (Classical.choose_spec (each i hi)).2
theorem rd_field {m' t o k i : Nat} {fs : Array Field} {cs : List Value} {xs : List (DataW H × List MemPlace)} (he : ∀ (i : Nat) (f : Field), fs[i]? = some f → DataW.trod enc Tryz.prog U 0 (fun _ => true) true m' f.type ((cs.drop f.offset).take (Tryz.prog.cellsOf f.type)) = xs[i]?)
    (hf : ∃ f, fs[i]? = some f ∧ f.type = t ∧ f.offset = o) (hc : Tryz.prog.cellsOf t = k) (hi : i < xs.length) : ∃ y, RdT enc U m' t ((cs.drop o).take k) y := by
  obtain ⟨f, h1, rfl, rfl⟩ := hf
  have h2 := he i f h1
  rw [hc, List.getElem?_eq_getElem hi] at h2
  exact ⟨_, h2⟩
theorem rd_act {m : Nat} {cs : List Value} {x : DataW H × List MemPlace} (h : RdT enc U m 33 cs x) : ActOk cs := by
  obtain ⟨xs, m', _, _, hl, hx, he⟩ := DataW.trod_struct Tryz.underlying33 h
  rw [c33] at hl
  have hx6 : xs.length = 6 := hx
  obtain ⟨_, h0⟩ := rd_field (t := 3) (o := 0) (i := 0) he ⟨_, rfl, rfl, rfl⟩ c3 (by omega)
  obtain ⟨_, h1⟩ := rd_field (t := 3) (o := 1) (i := 1) he ⟨_, rfl, rfl, rfl⟩ c3 (by omega)
  obtain ⟨_, h2⟩ := rd_field (t := 3) (o := 2) (i := 2) he ⟨_, rfl, rfl, rfl⟩ c3 (by omega)
  obtain ⟨_, h3⟩ := rd_field (t := 3) (o := 3) (i := 3) he ⟨_, rfl, rfl, rfl⟩ c3 (by omega)
  obtain ⟨_, h4⟩ := rd_field (t := 23) (o := 4) (i := 4) he ⟨_, rfl, rfl, rfl⟩ c23 (by omega)
  obtain ⟨_, h5⟩ := rd_field (t := 31) (o := 5) (i := 5) he ⟨_, rfl, rfl, rfl⟩ c31 (by omega)
  obtain ⟨k, e0⟩ := rd_int h0; obtain ⟨a, e1⟩ := rd_int h1; obtain ⟨b, e2⟩ := rd_int h2; obtain ⟨c, e3⟩ := rd_int h3; obtain ⟨v, e4⟩ := rd_word h4
  obtain ⟨u, e5⟩ : ∃ u, (cs.drop 5).take 1 = [u] := by
    rw [List.drop_eq_getElem_cons (by omega)]; exact ⟨_, rfl⟩
  rw [e5] at h5
  obtain ⟨_, _, hu, _⟩ := rd_words h5
  refine ⟨k, a, b, c, v, u, ?_, hu⟩
  have e := cut_next e0
  rw [cut_next e1, cut_next e2, cut_next e3, cut_next e4, cut_next e5, show List.drop (5 + 1) cs = [] from List.drop_eq_nil_of_le (by omega)] at e
  exact e
theorem rd_file {m : Nat} {cs : List Value} {x : DataW H × List MemPlace} (h : RdT enc U m 37 cs x) : ∃ F : File, cs = F.cells := by
  obtain ⟨xs, m', _, _, hl, hx, he⟩ := DataW.trod_struct Tryz.underlying37 h
  rw [c37] at hl
  have hx6 : xs.length = 5 := hx
  obtain ⟨_, h0⟩ := rd_field (t := 35) (o := 0) (i := 0) he ⟨_, rfl, rfl, rfl⟩ c35 (by omega)
  obtain ⟨_, h1⟩ := rd_field (t := 23) (o := 15) (i := 1) he ⟨_, rfl, rfl, rfl⟩ c23 (by omega)
  obtain ⟨_, h2⟩ := rd_field (t := 4) (o := 16) (i := 2) he ⟨_, rfl, rfl, rfl⟩ c4 (by omega)
  obtain ⟨_, h3⟩ := rd_field (t := 4) (o := 17) (i := 3) he ⟨_, rfl, rfl, rfl⟩ c4 (by omega)
  obtain ⟨_, h4⟩ := rd_field (t := 4) (o := 18) (i := 4) he ⟨_, rfl, rfl, rfl⟩ c4 (by omega)
  obtain ⟨f, e0⟩ := rd_arr Tryz.underlying35 c35 h0; obtain ⟨pc, e1⟩ := rd_word h1; obtain ⟨z, e2⟩ := rd_bool h2; obtain ⟨n, e3⟩ := rd_bool h3; obtain ⟨l, e4⟩ := rd_bool h4
  refine ⟨⟨f 0, f 1, f 2, f 3, f 4, f 5, f 6, f 7, f 8, f 9, f 10, f 11, f 12, f 13, f 14, pc, z, n, l⟩, ?_⟩
  have e := cut_next e0
  rw [cut_next e1, cut_next e2, cut_next e3, cut_next e4, show List.drop (18 + 1) cs = [] from List.drop_eq_nil_of_le (by omega)] at e
  exact e
theorem rd_call {m : Nat} {cs : List Value} {x : DataW H × List MemPlace} (h : RdT enc U m 41 cs x) : CallOk (OldA U) cs := by
  obtain ⟨xs, m', _, _, hl, hx, he⟩ := DataW.trod_struct Tryz.underlying41 h
  rw [c41] at hl
  have hx6 : xs.length = 6 := hx
  obtain ⟨_, h0⟩ := rd_field (t := 3) (o := 0) (i := 0) he ⟨_, rfl, rfl, rfl⟩ c3 (by omega)
  obtain ⟨_, h1⟩ := rd_field (t := 23) (o := 1) (i := 1) he ⟨_, rfl, rfl, rfl⟩ c23 (by omega)
  obtain ⟨_, h2⟩ := rd_field (t := 37) (o := 2) (i := 2) he ⟨_, rfl, rfl, rfl⟩ c37 (by omega)
  obtain ⟨_, h3⟩ := rd_field (t := 39) (o := 21) (i := 3) he ⟨_, rfl, rfl, rfl⟩ c39 (by omega)
  obtain ⟨_, h4⟩ := rd_field (t := 3) (o := 23) (i := 4) he ⟨_, rfl, rfl, rfl⟩ c3 (by omega)
  obtain ⟨_, h5⟩ := rd_field (t := 31) (o := 24) (i := 5) he ⟨_, rfl, rfl, rfl⟩ c31 (by omega)
  obtain ⟨th, e0⟩ := rd_int h0; obtain ⟨n, e1⟩ := rd_word h1; obtain ⟨F, e2⟩ := rd_file h2; obtain ⟨off, e4⟩ := rd_int h4
  obtain ⟨sec, pg, e3⟩ : ∃ (sec : Bool) (pg : Int), (cs.drop 21).take 2 = [.bool sec, i64 pg] := by
    obtain ⟨ys, m2, _, _, hl2, hy, hf⟩ := DataW.trod_struct Tryz.underlying39 h3
    rw [c39] at hl2
    have hy2 : ys.length = 2 := hy
    obtain ⟨_, k0⟩ := rd_field (t := 4) (o := 0) (i := 0) hf ⟨_, rfl, rfl, rfl⟩ c4 (by omega)
    obtain ⟨_, k1⟩ := rd_field (t := 3) (o := 1) (i := 1) hf ⟨_, rfl, rfl, rfl⟩ c3 (by omega)
    obtain ⟨sec, j0⟩ := rd_bool k0; obtain ⟨pg, j1⟩ := rd_int k1
    refine ⟨sec, pg, ?_⟩
    have e := cut_next j0
    rw [cut_next j1, show List.drop (1 + 1) ((cs.drop 21).take 2) = [] from List.drop_eq_nil_of_le (by omega)] at e
    exact e
  obtain ⟨u, e5⟩ : ∃ u, (cs.drop 24).take 1 = [u] := by
    rw [List.drop_eq_getElem_cons (by omega)]; exact ⟨_, rfl⟩
  rw [e5] at h5
  obtain ⟨ws, hW, hu, _⟩ := rd_words h5
  refine ⟨th, n, F, sec, pg, off, u, ws, ?_, hu, hW⟩
  have e := cut_next e0
  rw [cut_next e1, cut_next e2, cut_next e3, cut_next e4, cut_next e5, show List.drop (24 + 1) cs = [] from List.drop_eq_nil_of_le (by omega)] at e
  exact e
theorem rd_key {m : Nat} {cs : List Value} {x : DataW H × List MemPlace} (h : RdT enc U m 24 cs x) : ∃ K : S8, cs = [w32 K.a, w32 K.b, w32 K.c, w32 K.d, w32 K.e, w32 K.f, w32 K.g, w32 K.h] := by
  obtain ⟨f, e⟩ := rd_arr Tryz.underlying24 c24 h
  exact ⟨⟨f 0, f 1, f 2, f 3, f 4, f 5, f 6, f 7⟩, e⟩
theorem rd_acts {m : Nat} {v : Value} {x : DataW H × List MemPlace} (h : RdT enc U m 22 [v] x) : ∃ n us, RdK (OldA U) v 6 n us ∧ (∀ i, i < n → ActOk (cutK us 6 i)) ∧ n ≤ Rows.uptoBulk x.1 := by
  obtain ⟨n, us, hS, hl, he⟩ := trod_elems Tryz.underlying22 c33 (by decide) h
  refine ⟨n, us, hS.rdK, fun i hi => ?_, ?_⟩
  · rcases he with h0 | ⟨es, sp, _, _, h1⟩
    · omega
    · obtain ⟨m', y, h2, _⟩ := h1 i hi
      exact rd_act h2
  · rcases he with rfl | ⟨es, sp, h0, h1, _⟩
    · omega
    · have h2 := slice_le es sp
      rw [h0]; omega
theorem rd_calls {m : Nat} {v : Value} {x : DataW H × List MemPlace} (h : RdT enc U m 26 [v] x) : ∃ n us, RdK (OldA U) v 25 n us ∧ (∀ i, i < n → CallOk (OldA U) (cutK us 25 i)) ∧ n ≤ Rows.uptoBulk x.1 := by
  obtain ⟨n, us, hS, hl, he⟩ := trod_elems Tryz.underlying26 c41 (by decide) h
  refine ⟨n, us, hS.rdK, fun i hi => ?_, ?_⟩
  · rcases he with h0 | ⟨es, sp, _, _, h1⟩
    · omega
    · obtain ⟨m', y, h2, _⟩ := h1 i hi
      exact rd_call h2
  · rcases he with rfl | ⟨es, sp, h0, h1, _⟩
    · omega
    · have h2 := slice_le es sp
      rw [h0]; omega
end
end Go.Wd
