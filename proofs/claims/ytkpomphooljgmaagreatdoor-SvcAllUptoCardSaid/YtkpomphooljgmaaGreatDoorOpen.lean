/- PROVED HERE: how an argument that reads as data lies in memory. No condition beyond each theorem's own. -/
import Derived.Test.YtkpomphooljgmaaGreatDoorMLaw
import Derived.ChangeArms
import Derived.OpenShut
import Derived.ReadAgain
namespace Go.Wd
open Go Go.ChangeShapes Go.WideShapes
/-! the world at the call's beginning -/
def OldA (W : World) : Assn where
  p w F := F = (fun b => b < W.heap.size) ∧ W.heap.size ≤ w.heap.size ∧ ∀ b, b < W.heap.size → w.heap[b]? = W.heap[b]?
  loc := fun {w w' F} ⟨h1, h2, h3⟩ hk => by
    have hk' : ∀ b, b < W.heap.size → w'.heap[b]? = w.heap[b]? := fun b hb => hk b (by rw [h1]; exact hb)
    refine ⟨h1, ?_, fun b hb => (hk' b hb).trans (h3 b hb)⟩
    by_cases h0 : W.heap.size = 0
    · omega
    · have h5 := (hk' (W.heap.size - 1) (by omega)).trans (h3 _ (by omega))
      rw [Array.getElem?_eq_getElem (show W.heap.size - 1 < W.heap.size by omega)] at h5
      have := (Array.getElem?_eq_some_iff.1 h5).1
      omega
  lt := fun {w F} ⟨h1, h2, _⟩ b hb => by rw [h1] at hb; exact Nat.lt_of_lt_of_le hb h2
theorem OldA.own {W : World} : Own (Env.of W) [OldA W] .emp W :=
  ⟨⟨rfl, rfl, rfl⟩, fun b => b < W.heap.size, fun b => b < W.heap.size, fun _ => False, ⟨fun b => b < W.heap.size, fun _ => False, ⟨rfl, Nat.le_refl _, fun _ _ => rfl⟩, rfl, fun _ _ h => h, by funext b; simp⟩, rfl, fun _ _ h => h, by funext b; simp⟩
theorem OldA.cell {W w : World} (h : Holds (OldA W) w) {b off : Nat} {v : Value} (hv : W.cell? ⟨b, off, none⟩ = some v) : w.cell? ⟨b, off, none⟩ = some v := by
  obtain ⟨F, _, _, h3⟩ := h
  have hb : b < W.heap.size := by
    unfold World.cell? at hv
    cases ho : W.heap[b]? with
    | none => simp [ho] at hv
    | some o => exact (Array.getElem?_eq_some_iff.1 ho).1
  unfold World.cell? at hv ⊢
  rw [show w.heap[(⟨b, off, none⟩ : Addr).block]? = W.heap[(⟨b, off, none⟩ : Addr).block]? from h3 b hb]; exact hv
/-- a slice's cells in a world -/
def SlOf (W : World) (v : Value) (k n : Nat) (us : List Value) : Prop := (∃ p, v = .slice p 0 0 ∧ n = 0) ∨ ∃ g off c, v = .slice (some ⟨g, off, none⟩) n c ∧ n ≤ c ∧ us.length = n * k ∧ ∀ j u, us[j]? = some u → W.cell? ⟨g, off + j, none⟩ = some u
theorem SlOf.rdK {W : World} {v : Value} {k n : Nat} {us : List Value} (h : SlOf W v k n us) : RdK (OldA W) v k n us := fun w hw => by
  rcases h with h | ⟨g, off, c, h1, h2, h3, h4⟩
  · exact .inl h
  · exact .inr ⟨g, off, c, h1, h2, h3, fun j u hj => OldA.cell hw (h4 j u hj)⟩
theorem SlOf.rd {W : World} {v : Value} {n : Nat} {us : List Value} (h : SlOf W v 1 n us) (hl : us.length = n) : Rd (OldA W) v us := fun w hw => by
  rcases h with ⟨p, h1, h2⟩ | ⟨g, off, c, h1, h2, h3, h4⟩
  · exact .inl ⟨p, h1, List.eq_nil_of_length_eq_zero (by omega)⟩
  · subst hl; exact .inr ⟨g, off, c, h1, h2, fun j u hj => OldA.cell hw (h4 j u hj)⟩
theorem SlOf.cell {W : World} {v : Value} {k n : Nat} {us : List Value} (h : SlOf W v k n us) : isCell v = true := by
  rcases h with ⟨_, rfl, _⟩ | ⟨_, _, _, rfl, _⟩ <;> rfl
def cellsAt (W : World) (g off m : Nat) : List Value := (List.range m).map fun j => (W.cell? ⟨g, off + j, none⟩).getD .nilFunc
theorem cellsAt_len {W : World} {g off m : Nat} : (cellsAt W g off m).length = m := by simp [cellsAt]
theorem cellsAt_get {W : World} {g off m j : Nat} (h : j < m) : (cellsAt W g off m)[j]? = some ((W.cell? ⟨g, off + j, none⟩).getD .nilFunc) := by simp [cellsAt, h]
section
variable {H : Type} {enc : TypeId × Value → H} {P : Program} {W : World}
/-- a slice that is read: its shape, its cells, what each element reads as -/
theorem trod_elems {t e k fuel : Nat} {v : Value} {x : DataW H × List MemPlace} (ht : P.underlying t = some (.slice e)) (hk : P.cellsOf e = k) (hk0 : 0 < k) (h : DataW.trod enc P W 0 (fun _ => true) true fuel t [v] = some x) :
    ∃ n us, SlOf W v k n us ∧ us.length = n * k ∧ (n = 0 ∨ ∃ es sp, x.1 = .slice es sp ∧ es.length = n ∧ ∀ i, i < n → ∃ m y, DataW.trod enc P W 0 (fun _ => true) true m e (cutK us k i) = some y ∧ es[i]? = some y.1) := by
  rcases DataW.trod_slice ht h with ⟨h1, h2⟩ | ⟨a, len, cap, elems, rest, m, _, h1, rfl, _, hl, _, hlen, hel, hsp, _⟩
  · cases h1
    exact ⟨0, [], .inl ⟨none, rfl, rfl⟩, by simp, .inl rfl⟩
  · cases h1
    obtain ⟨hrl, hr⟩ := hsp rfl
    by_cases h0 : cap = 0
    · obtain rfl : len = 0 := by omega
      subst h0
      exact ⟨0, [], .inl ⟨some a, rfl, rfl⟩, by simp, .inl rfl⟩
    · -- the first place
      have hfirst : ∃ cs, W.cells? 0 (a.add (0 * k)) k = some cs := by
        by_cases h3 : 0 < len
        · have h4 := hel 0 h3
          rw [List.getElem?_eq_getElem (by omega), hk] at h4
          obtain ⟨cs, h5, _⟩ := Option.bind_eq_some_iff.1 h4
          exact ⟨cs, h5⟩
        · obtain rfl : len = 0 := by omega
          have h4 := hr 0 (by omega)
          rw [List.getElem?_eq_getElem (by omega), hk] at h4
          obtain ⟨cs, h5, _⟩ := Option.bind_eq_some_iff.1 h4
          exact ⟨cs, h5⟩
      obtain ⟨cs0, hc0⟩ := hfirst
      obtain ⟨_, hcl, hcc⟩ := World.cells?_some hc0
      have hc1 := hcc 0 hk0
      rw [List.getElem?_eq_getElem (by omega)] at hc1
      have hspot : a.spot = none := by simpa [Addr.add] using World.cell?_spot hc1
      obtain ⟨g, off, spot⟩ := a
      simp only at hspot
      subst hspot
      have each : ∀ i, i < len → ∃ y, DataW.trod enc P W 0 (fun _ => true) true m e (cutK (cellsAt W g off (len * k)) k i) = some y ∧ elems[i]? = some y ∧ ∀ j, j < k → (W.cell? ⟨g, off + (i * k + j), none⟩).isSome := by
        intro i hi
        have h4 := hel i hi
        rw [List.getElem?_eq_getElem (by omega), hk] at h4
        obtain ⟨cs, h5, h6⟩ := Option.bind_eq_some_iff.1 h4
        obtain ⟨_, h7, h8⟩ := World.cells?_some h5
        have h9 : ∀ j, j < k → W.cell? ⟨g, off + (i * k + j), none⟩ = cs[j]? := fun j hj => by
          rw [← h8 j hj, add_plain, add_plain, Nat.add_assoc]
        have hle : i * k + k ≤ len * k := by rw [← Nat.succ_mul]; exact Nat.mul_le_mul_right k hi
        have hcut : cutK (cellsAt W g off (len * k)) k i = cs := by
          apply List.ext_getElem?
          intro j
          unfold cutK
          rw [List.getElem?_take]
          by_cases hj : j < k
          · rw [if_pos hj, List.getElem?_drop, cellsAt_get (by omega), h9 j hj, List.getElem?_eq_getElem (by omega)]; rfl
          · rw [if_neg hj, List.getElem?_eq_none (by omega)]
        refine ⟨elems[i]'(by omega), by rw [hcut]; exact h6, List.getElem?_eq_getElem (by omega), fun j hj => by rw [h9 j hj, List.getElem?_eq_getElem (by omega)]; rfl⟩
      refine ⟨len, cellsAt W g off (len * k), .inr ⟨g, off, cap, rfl, hl, cellsAt_len, fun j u hj => ?_⟩, cellsAt_len, .inr ⟨elems.map (·.1), rest.map (·.1), rfl, by simp [hlen], fun i hi => ?_⟩⟩
      · have hjl : j < len * k := by have := (List.getElem?_eq_some_iff.1 hj).1; rwa [cellsAt_len] at this
        obtain ⟨y, _, _, hs⟩ := each (j / k) (Nat.div_lt_of_lt_mul (by rw [Nat.mul_comm]; exact hjl))
        have hs := hs (j % k) (Nat.mod_lt _ hk0)
        rw [Nat.mul_comm, Nat.div_add_mod] at hs
        rw [cellsAt_get hjl] at hj
        cases hc : W.cell? ⟨g, off + j, none⟩ with
        | none => rw [hc] at hs; simp at hs
        | some z => rw [hc] at hj; simpa using hj
      · obtain ⟨y, h1, h2, _⟩ := each i hi
        exact ⟨m, y, h1, by rw [List.getElem?_map, h2]; rfl⟩
end
end Go.Wd
