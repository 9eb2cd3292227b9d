/- PROVED HERE: for every input of bulk at most 1048576 the call warden/wardenlaw19.SvcAll returns true and each argument reads afterwards as it did before. Conditions: those of the given card (the two listed tables hold what the program's text lays; the model's own). -/
import Derived.Test.YtkpomphooljgmaaGreatDoorOpen2
import Derived.Test.YtkpomphooljgmaaGreatDoorCards
import Derived.Test.YtkpomphooljgmaaGreatDoorTie
import Derived.ProofKit
import Derived.OpenShut
import Derived.ReadAgain
import Derived.Deep.DeepHandedRow
import Derived.Lib.LaidTab
namespace Go.Proofs.YtkpomphooljgmaaGreatDoor.svcAll
open Go.ChangeShapes Go.WideShapes Go.ChangeAt Go.RowKit Go.Wd
open Go.Proofs.YtkpomphooljgmaaGreatDoor.bulks (one_le part_le length_le slice_le slice_elems bound)
theorem own : ownKnob Tryz.prog.godebug = none := by kernel_rfl
theorem g0 : Tryz.prog.globalNamed "warden/sha.rounds" = some 0 := by kernel_rfl
theorem g1 : Tryz.prog.globalNamed "warden/wardenref02.K" = some 1 := by kernel_rfl
theorem t0 : (Tryz.prog.globals[0]?).map (·.type) = some 204 := by kernel_rfl
theorem t1 : (Tryz.prog.globals[1]?).map (·.type) = some 204 := by kernel_rfl
theorem c204 : Tryz.prog.cellsOf 204 = 64 := by kernel_rfl
def zs : List Int := KK.map fun w => (w.toNat : Int)
theorem zs_get {i : Nat} : zs.getD i 0 = ((wAt KK i).toNat : Int) := by
  unfold zs wAt
  rw [List.getD, List.getElem?_map]
  cases KK[i]? <;> rfl
theorem zs_len : zs.length = 64 := by unfold zs; rw [List.length_map]; rfl
theorem laid_rest {P : Program} {n : String} {d : DataW Unit} {rest : List (String × DataW Unit)} {W : World} (h : laidMet P ((n, d) :: rest) W) : laidMet P rest W := by
  obtain ⟨ps, ⟨_, _, _, _, _, q, _, _, _, _, hr, rfl⟩, hn, hf⟩ := h
  exact ⟨q, hr, (List.nodup_append.1 hn).2.1, fun b off hp => hf b off (List.mem_append_right _ hp)⟩
theorem tables {U : World} (h : laidMetH Tryz.prog Rows.svcAllRow.laid U) : Tab (OldA U) 0 ∧ Tab (OldA U) 1 := by
  have h' : laidMet Tryz.prog [("warden/sha.rounds", Lib.tabData .u32 zs), ("warden/wardenref02.K", Lib.tabData .u32 zs)] U := h
  have k0 := Lib.tabIs_of_head g0 t0 Tryz.underlying204 Tryz.underlying23 c23 c204 h'
  have k1 := Lib.tabIs_of_head g1 t1 Tryz.underlying204 Tryz.underlying23 c23 c204 (laid_rest h')
  refine ⟨fun w hw i hi => OldA.cell hw ?_, fun w hw i hi => OldA.cell hw ?_⟩
  · have := k0.cell g0 i (by rw [zs_len]; exact hi)
    rw [zs_get] at this; exact this
  · have := k1.cell g1 i (by rw [zs_len]; exact hi)
    rw [zs_get] at this; exact this
section
variable {H : Type} {enc : TypeId × Value → H} {P : Program} {w w' : World}
theorem carry_all {base : Nat} {sp : Nat → Bool} {held : Bool} : ∀ {ts : List TypeId} {vs : List Value} {ds : List (DataW H)} {ps : List MemPlace}, DataW.TrodAll enc P w base sp held ts vs ds ps → (∀ p ∈ ps, w.sameAt w' p) → DataW.TrodAll enc P w' base sp held ts vs ds ps
  | [], [], [], _, h, _ => h
  | _ :: _, _ :: _, _ :: _, _, ⟨p, q, ⟨n, h1⟩, h2, e⟩, hs =>
    ⟨p, q, ⟨n, DataW.trod_carry n _ _ _ h1 (fun x hx => hs x (by rw [e]; exact List.mem_append_left _ hx))⟩, carry_all h2 (fun x hx => hs x (by rw [e]; exact List.mem_append_right _ hx)), e⟩
theorem slice_val {t e base : Nat} {r : Reach} {v : Value} (ht : P.underlying t = some (.slice e)) (h : Value.okWide P w r base t v) : isCell v = true := by
  unfold Value.okWide at h
  rw [ht] at h
  simp only [Cell.okWide, ht, Cell.ok] at h
  cases v <;> simp_all [isCell]
theorem arr_val {t e n base : Nat} {r : Reach} {v : Value} (ht : P.underlying t = some (.array n e)) (h : Value.okWide P w r base t v) : ∃ cs, v = .agg cs ∧ cs.size = P.cellsOf t ∧ Row.okWide P w r base t cs := by
  unfold Value.okWide at h
  rw [ht] at h
  exact h
theorem int_cell {t base : Nat} {k : IntKind} {r : Reach} {v : Value} (ht : P.underlying t = some (.int k)) (h : Cell.okWide P w r base t v) : isCell v = true := by
  simp only [Cell.okWide, ht, Cell.ok] at h
  cases v <;> simp_all [isCell]
end
theorem ct24 : Tryz.prog.cellTypes Tryz.prog.depth 24 = some [23, 23, 23, 23, 23, 23, 23, 23] := by kernel_rfl
set_option maxRecDepth 100000 in
theorem key_val {U : World} {base : Nat} {v : Value} (h : Value.okWide Tryz.prog U .any base 24 v) : ∃ c0 c1 c2 c3 c4 c5 c6 c7, v = .agg #[c0, c1, c2, c3, c4, c5, c6, c7] ∧ v.cells.toList = [c0, c1, c2, c3, c4, c5, c6, c7] := by
  obtain ⟨cs, rfl, hs, ts, hts, _, hc⟩ := arr_val Tryz.underlying24 h
  rw [c24] at hs
  obtain rfl := Option.some.inj (ct24.symm.trans hts)
  obtain ⟨l⟩ := cs
  have hl : l.length = 8 := hs
  match l, hl with
  | [c0, c1, c2, c3, c4, c5, c6, c7], _ =>
    have g : ∀ i v, i < 8 → [c0, c1, c2, c3, c4, c5, c6, c7][i]? = some v → isCell v = true := fun i v hi hv => by
      obtain ⟨u, h1, h2⟩ := hc i v (by simpa using hv)
      have : u = 23 := by
        have : i = 0 ∨ i = 1 ∨ i = 2 ∨ i = 3 ∨ i = 4 ∨ i = 5 ∨ i = 6 ∨ i = 7 := by omega
        rcases this with rfl | rfl | rfl | rfl | rfl | rfl | rfl | rfl <;> simpa using h1.symm
      subst this
      exact int_cell Tryz.underlying23 h2
    refine ⟨c0, c1, c2, c3, c4, c5, c6, c7, rfl, ?_⟩
    have h0 := isCell_cells (g 0 _ (by decide) rfl); have h1 := isCell_cells (g 1 _ (by decide) rfl); have h2 := isCell_cells (g 2 _ (by decide) rfl); have h3 := isCell_cells (g 3 _ (by decide) rfl)
    have h4 := isCell_cells (g 4 _ (by decide) rfl); have h5 := isCell_cells (g 5 _ (by decide) rfl); have h6 := isCell_cells (g 6 _ (by decide) rfl); have h7 := isCell_cells (g 7 _ (by decide) rfl)
    simp [Value.cells, Array.flatMap, h0, h1, h2, h3, h4, h5, h6, h7]
theorem read_slice {H : Type} {enc : TypeId × Value → H} {U : World} {t : Nat} {v : Value} {d : DataW H} {p : List MemPlace} (hv : isCell v = true) (h : DataW.Trod enc Tryz.prog U 0 (fun _ => true) true t v d p) : ∃ m, RdT enc U m t [v] (d, p) := by
  obtain ⟨m, h⟩ := h
  rw [isCell_cells hv] at h
  exact ⟨m, h⟩
theorem kids : Kids Tryz.prog (· < Tryz.prog.types.size) := kids_rows (by kernel_rfl) (by kernel_rfl)
theorem full : ∀ t e, t < Tryz.prog.types.size → Tryz.prog.underlying t = some (.slice e) → 0 < Tryz.prog.cellsOf e := slices_full_of Tryz.prog (by kernel_rfl)
theorem small : ∀ t ∈ Tryz.f3.params.toList, t < Tryz.prog.types.size := fun t ht => of_decide_eq_true (List.all_eq_true.1 (show (Tryz.f3.params.toList.all fun t => decide (t < Tryz.prog.types.size)) = true by kernel_rfl) t ht)
set_option maxRecDepth 100000 in
theorem contract (H : Type) (enc : TypeId × Value → H) (U : World) (base : Nat) (args : Array Value) (ds gs : List (DataW H)) (before : List MemPlace)
    (hval : ∀ (j : Nat) t v, Tryz.f3.params[j]? = some t → args[j]? = some v → Value.okWide Tryz.prog U .any base t v)
    (hW : DataW.Whole enc Tryz.prog Tryz.f3.params.toList Rows.svcAllSpec.vars false U args.toList ds gs before) (hk : Rows.uptoSmall H (ds ++ gs) = true) (hL : laidMetH Tryz.prog Rows.svcAllRow.laid U) :
    Calls Tryz.prog 3 args U fun e U' => ∃ v, e = .returned v ∧ Rows.svcAllSpec.post enc Tryz.prog Tryz.f3 false true false false U args v U' := by
  have hW' := hW
  obtain ⟨p, q, hA0, hV, rfl, hfz, hnd⟩ := hW
  have hA : DataW.TrodAll enc Tryz.prog U 0 (fun _ => true) true Tryz.f3.params.toList args.toList ds p := hA0
  obtain ⟨rfl, rfl⟩ := trodVars_none hV
  have hb := bound hk
  rw [Tryz.params3] at hA hval
  obtain ⟨v0, vs0, d0, ds0, p0, q0, hargs, rfl, rfl, h0, r0⟩ := trodAll_cons hA
  obtain ⟨v1, vs1, d1, ds1, p1, q1, rfl, rfl, rfl, h1, r1⟩ := trodAll_cons r0
  obtain ⟨v2, vs2, d2, ds2, p2, q2, rfl, rfl, rfl, h2, r2⟩ := trodAll_cons r1
  obtain ⟨v3, vs3, d3, ds3, p3, q3, rfl, rfl, rfl, h3, r3⟩ := trodAll_cons r2
  obtain ⟨v4, vs4, d4, ds4, p4, q4, rfl, rfl, rfl, h4, r4⟩ := trodAll_cons r3
  obtain ⟨v5, vs5, d5, ds5, p5, q5, rfl, rfl, rfl, h5, r5⟩ := trodAll_cons r4
  obtain ⟨v6, vs6, d6, ds6, p6, q6, rfl, rfl, rfl, h6, r6⟩ := trodAll_cons r5
  obtain ⟨v7, vs7, d7, ds7, p7, q7, rfl, rfl, rfl, h7, r7⟩ := trodAll_cons r6
  obtain ⟨rfl, rfl, rfl⟩ := trodAll_nil r7
  obtain rfl : args = #[v0, v1, v2, v3, v4, v5, v6, v7] := Array.toList_inj.1 hargs
  obtain ⟨a0, rfl, rfl, rfl, w0⟩ := open_int Tryz.underlying3 (hval 0 3 v0 rfl rfl) h0
  obtain ⟨a5, rfl, rfl, rfl, w5⟩ := open_int Tryz.underlying3 (hval 5 3 v5 rfl rfl) h5
  obtain ⟨a6, rfl, rfl, rfl, w6⟩ := open_int Tryz.underlying3 (hval 6 3 v6 rfl rfl) h6
  obtain ⟨a7, rfl, rfl, rfl, w7⟩ := open_int Tryz.underlying23 (hval 7 23 v7 rfl rfl) h7
  obtain ⟨m1, k1⟩ := read_slice (slice_val Tryz.underlying22 (hval 1 22 v1 rfl rfl)) h1
  obtain ⟨m3, k3⟩ := read_slice (slice_val Tryz.underlying25 (hval 3 25 v3 rfl rfl)) h3
  obtain ⟨m4, k4⟩ := read_slice (slice_val Tryz.underlying26 (hval 4 26 v4 rfl rfl)) h4
  obtain ⟨c0, c1, c2, c3, c4, c5, c6, c7, rfl, hcs⟩ := key_val (hval 2 24 v2 rfl rfl)
  obtain ⟨m2, k2⟩ := h2
  rw [hcs] at k2
  obtain ⟨K, hK⟩ := rd_key k2
  obtain ⟨rfl, rfl, rfl, rfl, rfl, rfl, rfl, rfl⟩ : c0 = w32 K.a ∧ c1 = w32 K.b ∧ c2 = w32 K.c ∧ c3 = w32 K.d ∧ c4 = w32 K.e ∧ c5 = w32 K.f ∧ c6 = w32 K.g ∧ c7 = w32 K.h := by simpa using hK
  obtain ⟨na, ua, hRa, hOa, hla⟩ := rd_acts k1
  obtain ⟨us, S, hR, hlS, hls⟩ := rd_streams k3
  obtain ⟨nc, uc, hRc, hOc, hlc⟩ := rd_calls k4
  obtain ⟨hK0, hK1⟩ := tables hL
  dsimp only at hla hlS hls hlc
  simp only [List.append_nil] at hb
  have b1 : Rows.uptoBulk d1 ≤ 1048576 := Nat.le_trans (part_le (by simp)) hb
  have b3 : Rows.uptoBulk d3 ≤ 1048576 := Nat.le_trans (part_le (by simp)) hb
  have b4 : Rows.uptoBulk d4 ≤ 1048576 := Nat.le_trans (part_le (by simp)) hb
  rw [word_of w7]
  have walk := S_wardenlaw19_SvcAll hK0 hK1 (p := a0) hRa hOa (K := K) hR (fun s hs => Nat.le_trans (hls s hs) (by omega)) (Nat.le_trans hlS (by omega)) hRc hOc (Nat.le_trans hla (by omega)) (Nat.le_trans hlc (by omega)) (b := a5) (t := a6) (c := BitVec.ofInt 32 a7)
  rw [word_of w7] at hA0 hW'
  refine (walk (Env.of U) .emp U OldA.own).mono fun e U' hU => ?_
  obtain ⟨_, rfl, _, ⟨ho, _, hu⟩, hH⟩ := hU
  have hold := hH.left.left
  obtain ⟨F, _, hsz, hblk⟩ := hold
  have hsame : ∀ p : MemPlace, p.block < U.heap.size → U.sameAt U' p := fun p hp => by
    cases p with
    | cell b off =>
      show U'.cell? ⟨b, off, none⟩ = U.cell? ⟨b, off, none⟩
      unfold World.cell?
      rw [show U'.heap[(⟨b, off, none⟩ : Addr).block]? = U.heap[(⟨b, off, none⟩ : Addr).block]? from hblk b hp]
    | map b => exact hblk b hp
  have hr := DataW.TrodAll.respare (spare' := fun b => decide (b < U.heap.size)) kids full small hA0 (fun p hp => by simpa using DataW.TrodAll.lt hA0 p hp)
  have hc := carry_all hr (fun p hp => hsame p (DataW.TrodAll.lt hA0 p hp))
  refine ⟨_, rfl, _, _, _, _, _, _, hW', trodAll_cons_mk (shut_bool Tryz.underlying4 _) trodAll_mk0, hc, rfl, ?_, fun h => nomatch h⟩
  refine ⟨ho, hu, fun i hi => ?_⟩
  rw [hblk i hi]
  cases U.heap[i]? with
  | none => rfl
  | some o => cases o <;> first | rfl | exact ⟨rfl, rfl, rfl, fun _ _ => rfl⟩ | exact .inr ⟨rfl, rfl⟩
/-- a world for the witness: the settled one, the tables (blocks 0 and 1) holding what their text lays -/
noncomputable def laidWorld (os : Os) : World :=
  let tab : Obj → Obj := fun o => match o with
    | .cells _ t frozen => .cells (KK.map fun w => Value.int .u32 (w.toNat : Int)).toArray t frozen
    | o => o
  { World.holding Tryz.prog os ⟨#[], #[], []⟩ with heap := ((World.holding Tryz.prog os ⟨#[], #[], []⟩).heap.modify 0 tab).modify 1 tab }
abbrev wargs : Array Value := #[.int .i64 0, .slice none 0 0, .agg #[.int .u32 0, .int .u32 0, .int .u32 0, .int .u32 0, .int .u32 0, .int .u32 0, .int .u32 0, .int .u32 0], .slice none 0 0, .slice none 0 0, .int .i64 0, .int .i64 0, .int .u32 0]
theorem laid_met (os : Os) : laidMet Tryz.prog Rows.svcAllRow.laid ((laidWorld os).forCall (fun _ _ => 0) ⟨#[], wargs, []⟩).memory :=
  laidMet_of_run' 8 (by kernel_rfl) (by kernel_rfl)
theorem reads (os : Os) {H : Type} (enc : TypeId × Value → H) : ∃ places, DataW.whole enc Tryz.prog ((laidWorld os).forCall (fun _ _ => 0) ⟨#[], wargs, []⟩).memory Tryz.f3.params.toList Rows.svcAllSpec.vars false wargs.toList 8 = some ([.lit (.int .i64 0), .nil, .agg [.lit (.int .u32 0), .lit (.int .u32 0), .lit (.int .u32 0), .lit (.int .u32 0), .lit (.int .u32 0), .lit (.int .u32 0), .lit (.int .u32 0), .lit (.int .u32 0)], .nil, .nil, .lit (.int .i64 0), .lit (.int .i64 0), .lit (.int .u32 0)], [], places) :=
  ⟨[], by kernel_rfl⟩
set_option maxRecDepth 100000 in
theorem lifted (os : Os) (started : os.Started) (H : Type) (enc : TypeId × Value → H) (F : Stop.Interp) :
    ReturnsInHanded {} Tryz.checked os 3 .any ((Rows.OpenSpec.upto Rows.svcAllSpec).preRow enc Tryz.prog Tryz.f3 Rows.svcAllUptoRow.domain false Rows.svcAllUptoRow.laid) (((Rows.OpenSpec.upto Rows.svcAllSpec).at F).post enc Tryz.prog Tryz.f3 false true false false) := by
  obtain ⟨places, hx⟩ := reads os enc
  refine returnsInHanded_of_row (C := Tryz.checked) (s := Rows.OpenSpec.upto Rows.svcAllSpec) own started (by kernel_rfl) Tryz.func3
    (witness_row_at (enc := enc) (C := Tryz.checked) false (laidWorld os) wargs rfl (by kernel_rfl) (by kernel_rfl) (by kernel_rfl)
      (OpenSpec.preRow_of_cond 8 hx (by kernel_rfl) (fun k hk => by cases hk; kernel_rfl) (by kernel_rfl) (laid_met os))) ?_
  intro W base args ds gs before hval hW _ hcond _ hL _ _
  exact contract H enc W base args ds gs before hval hW (hcond _ rfl) hL
theorem said : Rows.SvcAllUptoSaid :=
  OpenClaim.holds_of_cond 3 Tryz.f3 rfl rfl rfl rfl rfl rfl rfl ⟨rfl, rfl, rfl, rfl, rfl⟩ rfl rfl rfl rfl rfl (by kernel_rfl) Tryz.func3 (by kernel_rfl)
    (of_decide_eq_true (by kernel_rfl)) (by unfold Func.isWrapper; first | (rw [if_pos (by decide +kernel)]; kernel_rfl) | (rw [if_neg (by decide +kernel)]; exact ⟨rfl, rfl⟩))
    (fun os started H enc _ F => by rw [OpenClaim.pre_eq_preRow]; exact lifted os started H enc F)
theorem plain (f : FuncId) (fn : Func) (hf : Tryz.pinned.checked.prog.funcNamed "warden/wardenlaw19.SvcAll" = some f) (hfn : Tryz.pinned.checked.prog.funcs[f]? = some fn) :
    false = Tryz.pinned.checked.prog.looks [] ∧ ∀ (j : Nat) t, fn.params[j]? = some t → Tryz.pinned.checked.prog.wantsStandIn t = false := by
  obtain rfl : f = 3 := Option.some.inj ((show Tryz.prog.funcNamed "warden/wardenlaw19.SvcAll" = some 3 by kernel_rfl).symm.trans hf) |>.symm
  obtain rfl : fn = Tryz.f3 := (Option.some.inj (Tryz.func3.symm.trans hfn)).symm
  refine ⟨by kernel_rfl, fun j t ht => ?_⟩
  have h : (Tryz.f3.params.toList.all fun t => !Tryz.prog.wantsStandIn t) = true := by kernel_rfl
  have h2 := List.all_eq_true.1 h t (Array.mem_toList_iff.2 (Array.mem_of_getElem? ht))
  exact (show Tryz.prog.wantsStandIn t = false by simpa using h2)
/-- the card -/
theorem card : Rows.SvcAllUptoCardSaid :=
  Claim7.holds_tied_plain_at .later [] _ _ _ _ said (fun _ h => by cases h) (by kernel_rfl) (fun _ h => by cases h) svcAllUpto_row_tie rfl ⟨rfl, rfl⟩ (by kernel_rfl) rfl plain (by kernel_rfl)
end Go.Proofs.YtkpomphooljgmaaGreatDoor.svcAll
