/- PROVED HERE: rules of assertions with a footprint, and of the model's operations over them. No condition beyond each theorem's own. -/
import Derived.WalkKit
import Derived.OrdersHeld
import Derived.Deep.RegionHeld3
namespace Go.Wd
open Go

/-! ### Assertions with a footprint -/
structure Assn where
  p : World → (Nat → Prop) → Prop
  loc : ∀ {w w' : World} {F : Nat → Prop}, p w F → (∀ b, F b → w'.heap[b]? = w.heap[b]?) → p w' F
  lt : ∀ {w : World} {F : Nat → Prop}, p w F → ∀ b, F b → b < w.heap.size

def Assn.emp : Assn := ⟨fun _ F => F = fun _ => False, fun h _ => h, fun h b hb => by subst h; exact hb.elim⟩

def Assn.blk (b : Nat) (o : Obj) : Assn :=
  ⟨fun w F => F = (fun x => x = b) ∧ w.heap[b]? = some o,
   fun ⟨h, ho⟩ hF => ⟨h, by rw [hF b (by rw [h])]; exact ho⟩,
   fun ⟨h, ho⟩ x hx => by subst h; subst hx; exact (Array.getElem?_eq_some_iff.1 ho).1⟩

/-- a row of cells, none of them frozen -/
def Assn.row (b : Nat) (l : List Value) (T : Nat) : Assn := .blk b (.cells l.toArray T)

def Assn.sep (A B : Assn) : Assn :=
  ⟨fun w F => ∃ F1 F2, A.p w F1 ∧ B.p w F2 ∧ (∀ b, F1 b → ¬ F2 b) ∧ F = fun b => F1 b ∨ F2 b,
   fun ⟨F1, F2, h1, h2, hd, hF⟩ hk => ⟨F1, F2, A.loc h1 (fun b hb => hk b (by rw [hF]; exact .inl hb)), B.loc h2 (fun b hb => hk b (by rw [hF]; exact .inr hb)), hd, hF⟩,
   fun ⟨F1, F2, h1, h2, _, hF⟩ b hb => by subst hF; exact hb.elim (A.lt h1 b) (B.lt h2 b)⟩

def Assn.ex {α : Type} (A : α → Assn) : Assn :=
  ⟨fun w F => ∃ x, (A x).p w F, fun ⟨x, h⟩ hk => ⟨x, (A x).loc h hk⟩, fun ⟨x, h⟩ b hb => (A x).lt h b hb⟩

def Assn.fact (q : Prop) : Assn := ⟨fun _ F => q ∧ F = fun _ => False, fun h _ => h, fun h b hb => by obtain ⟨_, h⟩ := h; subst h; exact hb.elim⟩

def Assn.all : List Assn → Assn
  | [] => .emp
  | A :: L => .sep A (all L)

theorem Assn.sep_comm {A B : Assn} {w : World} {F : Nat → Prop} (h : (A.sep B).p w F) : (B.sep A).p w F := by
  obtain ⟨F1, F2, h1, h2, hd, rfl⟩ := h
  exact ⟨F2, F1, h2, h1, fun b hb hb' => hd b hb' hb, by funext b; exact propext Or.comm⟩

theorem Assn.sep_assoc {A B C : Assn} {w : World} {F : Nat → Prop} (h : ((A.sep B).sep C).p w F) : (A.sep (B.sep C)).p w F := by
  obtain ⟨F12, F3, ⟨F1, F2, h1, h2, hd, rfl⟩, h3, hd', rfl⟩ := h
  refine ⟨F1, fun b => F2 b ∨ F3 b, h1, ⟨F2, F3, h2, h3, fun b hb => hd' b (.inr hb), rfl⟩, ?_, ?_⟩
  · intro b hb hb'; exact hb'.elim (hd b hb) (hd' b (.inl hb))
  · funext b; exact propext or_assoc

theorem Assn.sep_assoc' {A B C : Assn} {w : World} {F : Nat → Prop} (h : (A.sep (B.sep C)).p w F) : ((A.sep B).sep C).p w F := by
  obtain ⟨F1, F23, h1, ⟨F2, F3, h2, h3, hd, rfl⟩, hd', rfl⟩ := h
  refine ⟨fun b => F1 b ∨ F2 b, F3, ⟨F1, F2, h1, h2, fun b hb hb' => hd' b hb (.inl hb'), rfl⟩, h3, ?_, ?_⟩
  · intro b hb hb'; exact hb.elim (fun h => hd' b h (.inr hb')) (fun h => hd b h hb')
  · funext b; exact propext or_assoc.symm

theorem Assn.sep_mono {A A' B B' : Assn} {w : World} (hA : ∀ F, A.p w F → A'.p w F) (hB : ∀ F, B.p w F → B'.p w F) {F : Nat → Prop} (h : (A.sep B).p w F) : (A'.sep B').p w F := by
  obtain ⟨F1, F2, h1, h2, hd, rfl⟩ := h
  exact ⟨F1, F2, hA _ h1, hB _ h2, hd, rfl⟩

/-- 'A', beside something that is let go. -/
def Holds (A : Assn) (w : World) : Prop := ∃ F, A.p w F

theorem Holds.left {A B : Assn} {w : World} (h : Holds (A.sep B) w) : Holds A w := by
  obtain ⟨_, F1, _, h1, _⟩ := h; exact ⟨F1, h1⟩
theorem Holds.right {A B : Assn} {w : World} (h : Holds (A.sep B) w) : Holds B w := by
  obtain ⟨_, _, F2, _, h2, _⟩ := h; exact ⟨F2, h2⟩

/-! ### The state: what is known of the world beside its heap -/
structure Env where
  os : Os
  tape : Nat → Question → Nat
  output : Array (Nat × ByteArray)

def Env.of (w : World) : Env := ⟨w.os, w.tape, w.output⟩
def Env.at (σ : Env) (w : World) : Prop := w.os = σ.os ∧ w.tape = σ.tape ∧ w.output = σ.output

/-- the items L and the rest R lie apart from each other in w -/
def Own (σ : Env) (L : List Assn) (R : Assn) (w : World) : Prop := σ.at w ∧ Holds ((Assn.all L).sep R) w

/-- 'x' is one of the items, 'L'' are the others. -/
inductive Take : List Assn → Assn → List Assn → Prop
  | here {A : Assn} {L : List Assn} : Take (A :: L) A L
  | there {A B : Assn} {L L' : List Assn} (h : Take L A L') : Take (B :: L) A (B :: L')

theorem Take.all {L L' : List Assn} {A : Assn} (h : Take L A L') {w : World} : ∀ {F : Nat → Prop}, (Assn.all L).p w F → (Assn.all (A :: L')).p w F := by
  induction h with
  | here => exact fun h => h
  | there _ ih =>
    intro F hF
    have h1 := Assn.sep_mono (fun F h => h) (fun F h => ih h) hF
    have h2 := Assn.sep_assoc' h1
    have h3 := Assn.sep_mono (fun F h => Assn.sep_comm h) (fun F h => h) h2
    exact Assn.sep_assoc h3

theorem Take.all' {L L' : List Assn} {A : Assn} (h : Take L A L') {w : World} : ∀ {F : Nat → Prop}, (Assn.all (A :: L')).p w F → (Assn.all L).p w F := by
  induction h with
  | here => exact fun h => h
  | there _ ih =>
    intro F hF
    have h2 := Assn.sep_assoc' hF
    have h3 := Assn.sep_mono (fun F h => Assn.sep_comm h) (fun F h => h) h2
    have h4 := Assn.sep_assoc h3
    exact Assn.sep_mono (fun F h => h) (fun F h => ih h) h4

/-- the items 'pre' are among L, 'rest' are the others -/
inductive Pick : List Assn → List Assn → List Assn → Prop
  | nil {L : List Assn} : Pick L [] L
  | cons {L L' M rest : List Assn} {A : Assn} (h : Take L A L') (h' : Pick L' M rest) : Pick L (A :: M) rest

theorem Pick.all {L M rest : List Assn} (h : Pick L M rest) {w : World} : ∀ {F : Nat → Prop}, (Assn.all L).p w F → ((Assn.all M).sep (Assn.all rest)).p w F := by
  induction h with
  | nil =>
    intro F hF
    exact ⟨fun _ => False, F, rfl, hF, fun _ h => h.elim, by funext b; simp⟩
  | cons ht _ ih =>
    intro F hF
    have h1 := ht.all hF
    have h2 := Assn.sep_mono (fun F h => h) (fun F h => ih h) h1
    exact Assn.sep_assoc' h2

theorem Assn.all_append {M rest : List Assn} {w : World} : ∀ {F : Nat → Prop}, ((Assn.all M).sep (Assn.all rest)).p w F → (Assn.all (M ++ rest)).p w F := by
  induction M with
  | nil =>
    intro F h
    obtain ⟨F1, F2, h1, h2, _, rfl⟩ := h
    have : F1 = fun _ => False := h1
    subst this
    have e : (fun b => False ∨ F2 b) = F2 := by funext b; simp
    rw [e]; exact h2
  | cons A M ih =>
    intro F h
    have h1 := Assn.sep_assoc h
    exact Assn.sep_mono (fun F h => h) (fun F h => ih h) h1

theorem Assn.append_all {M rest : List Assn} {w : World} : ∀ {F : Nat → Prop}, (Assn.all (M ++ rest)).p w F → ((Assn.all M).sep (Assn.all rest)).p w F := by
  induction M with
  | nil => intro F h; exact ⟨fun _ => False, F, rfl, h, fun _ h => h.elim, by funext b; simp⟩
  | cons A M ih =>
    intro F h
    have h1 := Assn.sep_mono (fun F h => h) (fun F h => ih h) h
    exact Assn.sep_assoc' h1

/-- a contract's items for a call: the rest goes into the frame -/
theorem Own.focus {σ : Env} {L M rest : List Assn} {R : Assn} {w : World} (h : Own σ L R w) (hp : Pick L M rest) : Own σ M ((Assn.all rest).sep R) w := by
  obtain ⟨he, F, hF⟩ := h
  exact ⟨he, F, Assn.sep_assoc (Assn.sep_mono (fun F h => hp.all h) (fun F h => h) hF)⟩

theorem Own.unfocus {σ : Env} {M rest : List Assn} {R : Assn} {w : World} (h : Own σ M ((Assn.all rest).sep R) w) : Own σ (M ++ rest) R w := by
  obtain ⟨he, F, hF⟩ := h
  exact ⟨he, F, Assn.sep_mono (fun F h => Assn.all_append h) (fun F h => h) (Assn.sep_assoc' hF)⟩

/-- what is not wanted any more is let go: into the frame's side -/
def Ent (L L' : List Assn) : Prop := ∀ σ R w, Own σ L R w → Own σ L' R w

theorem Ent.refl (L : List Assn) : Ent L L := fun _ _ _ h => h
theorem Ent.trans {L L' L'' : List Assn} (h : Ent L L') (h' : Ent L' L'') : Ent L L'' := fun σ R w x => h' σ R w (h σ R w x)

theorem Own.drop {σ : Env} {M rest : List Assn} {R : Assn} {w : World} (h : Own σ M ((Assn.all rest).sep R) w) : Own σ M R w := by
  obtain ⟨he, F, F1, F2, h1, ⟨F3, F4, h3, h4, hd, rfl⟩, hd', rfl⟩ := h
  exact ⟨he, fun b => F1 b ∨ F4 b, F1, F4, h1, h4, fun b hb hb' => hd' b hb (.inr hb'), rfl⟩

theorem Ent.pick {L M rest : List Assn} (h : Pick L M rest) : Ent L M := fun _ _ _ x => (x.focus h).drop

/-- an entailment on some of the items -/
theorem Ent.sub {L M M' rest : List Assn} (hp : Pick L M rest) (h : Ent M M') : Ent L (M' ++ rest) :=
  fun _ _ _ x => (h _ _ _ (x.focus hp)).unfocus

theorem Own.holds {σ : Env} {L L' : List Assn} {R : Assn} {w : World} {A : Assn} (h : Own σ L R w) (ht : Take L A L') : Holds A w := by
  obtain ⟨_, h⟩ := h
  obtain ⟨F, hF⟩ := h.left
  exact Holds.left ⟨F, ht.all hF⟩

/-- the facts that loads read: items that hold -/
def Facts (H : List Assn) (w : World) : Prop := Holds (Assn.all H) w

theorem Own.facts {σ : Env} {L : List Assn} {R : Assn} {w : World} (h : Own σ L R w) : Facts L w := h.2.left

theorem Facts.get {H L' : List Assn} {w : World} {A : Assn} (h : Facts H w) (ht : Take H A L') : Holds A w := by
  obtain ⟨F, hF⟩ := h
  exact Holds.left ⟨F, ht.all hF⟩

theorem Facts.pick {L M rest : List Assn} {w : World} (h : Facts L w) (hp : Pick L M rest) : Facts M w := by
  obtain ⟨F, hF⟩ := h
  exact Holds.left ⟨F, hp.all hF⟩

theorem Holds.blk {b : Nat} {o : Obj} {w : World} (h : Holds (.blk b o) w) : w.heap[b]? = some o := by
  obtain ⟨_, _, h⟩ := h; exact h

/-! ### How the world turns -/
theorem Own.alloc {σ : Env} {L : List Assn} {R : Assn} {w : World} (h : Own σ L R w) (o : Obj) : Own σ (.blk w.heap.size o :: L) R { w with heap := w.heap.push o } := by
  obtain ⟨he, F, hF⟩ := h
  have hF' := (Assn.sep (Assn.all L) R).loc (w' := { w with heap := w.heap.push o }) hF (fun b hb => by
    have := (Assn.sep (Assn.all L) R).lt hF b hb
    simp only [Array.getElem?_push]; rw [if_neg (by omega)])
  refine ⟨he, fun b => b = w.heap.size ∨ F b, ?_⟩
  refine Assn.sep_assoc' ⟨fun b => b = w.heap.size, F, ⟨rfl, by simp⟩, hF', ?_, rfl⟩
  rintro b rfl hb
  have := (Assn.sep (Assn.all L) R).lt hF _ hb
  omega

/-- a block's content turns -/
theorem Own.turn {σ : Env} {L L' : List Assn} {R : Assn} {w w' : World} {b : Nat} {o o' : Obj} (h : Own σ L R w) (ht : Take L (.blk b o) L') (he : σ.at w → σ.at w')
    (hb : w'.heap[b]? = some o') (hk : ∀ x, x ≠ b → w'.heap[x]? = w.heap[x]?) : Own σ (.blk b o' :: L') R w' := by
  obtain ⟨hσ, F, hF⟩ := h
  have h1 := Assn.sep_assoc (Assn.sep_mono (fun F h => ht.all h) (fun F h => h) hF)
  obtain ⟨F1, F2, ⟨rfl, _⟩, h2, hd, rfl⟩ := h1
  refine ⟨he hσ, fun x => x = b ∨ F2 x, Assn.sep_assoc' ⟨fun x => x = b, F2, ⟨rfl, hb⟩, ?_, hd, rfl⟩⟩
  exact (Assn.sep (Assn.all L') R).loc h2 (fun x hx => hk x (fun e => hd x e hx))

theorem Own.drew {σ : Env} {L : List Assn} {R : Assn} {w : World} (h : Own σ L R w) (n : Nat) : Own σ L R { w with drawn := n } := by
  obtain ⟨he, F, hF⟩ := h
  exact ⟨he, F, (Assn.sep (Assn.all L) R).loc hF (fun _ _ => rfl)⟩

theorem Facts.drew {H : List Assn} {w : World} (h : Facts H w) (n : Nat) : Facts H { w with drawn := n } := by
  obtain ⟨F, hF⟩ := h
  exact ⟨F, (Assn.all H).loc hF (fun _ _ => rfl)⟩

/-! ### Slots -/
abbrev Slots := List (Nat × Value)

def lk : Slots → Nat → Option Value
  | [], _ => none
  | (e, v) :: s, d => bif Nat.beq e d then some v else lk s d

structure Sl (n : Nat) (s : Slots) (a : Act) : Prop where
  defers : a.defers = []
  size : a.tmps.size = n
  get : ∀ d v, lk s d = some v → a.tmps[d]? = some v

def ev (s : Slots) : Operand → Option Value
  | .tmp t => lk s t
  | .const v => some v
  | .global g => some (.pointer (some ⟨g, 0, none⟩))
  | .func f => some (.func (.func f) #[] #[])

theorem Sl.ev {n : Nat} {s : Slots} {a : Act} (h : Sl n s a) {x : Operand} {v : Value} (hx : Wd.ev s x = some v) : a.eval x = v := by
  cases x with
  | tmp t =>
    have := h.get t v hx
    simp only [Act.eval]
    rw [Array.getD_eq_getD_getElem?, this]; rfl
  | const u => simpa [Wd.ev, Act.eval] using hx
  | global g => simpa [Wd.ev, Act.eval] using hx
  | func f => simpa [Wd.ev, Act.eval] using hx

theorem Sl.put {n : Nat} {s : Slots} {a : Act} (h : Sl n s a) {d : Nat} (v : Value) (hd : Nat.blt d n = true) : Sl n ((d, v) :: s) (a.put (some d) v) := by
  have hd' : d < a.tmps.size := by rw [h.size]; exact Nat.le_of_ble_eq_true hd
  refine ⟨by simp [Act.put, h.defers], by simp [Act.put, h.size], fun e u he => ?_⟩
  simp only [lk] at he
  cases hb : Nat.beq d e with
  | true =>
    have hde : d = e := Nat.eq_of_beq_eq_true hb
    rw [hb] at he
    simp only [cond_true, Option.some.injEq] at he
    subst hde; subst he
    simp [Act.put, Array.getElem?_setIfInBounds_self_of_lt hd']
  | false =>
    have hde : d ≠ e := Nat.ne_of_beq_eq_false hb
    rw [hb] at he
    have := h.get e u he
    simp [Act.put, Array.getElem?_setIfInBounds_ne hde, this]

theorem Sl.putNone {n : Nat} {s : Slots} {a : Act} (h : Sl n s a) (v : Value) : Sl n s (a.put none v) := h

/-- fewer slots -/
def Sub (s s' : Slots) : Prop := ∀ d v, lk s' d = some v → lk s d = some v
theorem Sl.sub {n : Nat} {s s' : Slots} {a : Act} (h : Sl n s a) (hs : Sub s s') : Sl n s' a := ⟨h.defers, h.size, fun d v hd => h.get d v (hs d v hd)⟩
theorem Sub.nil {s : Slots} : Sub s [] := fun d v h => by simp [lk] at h
theorem Sub.cons {s s' : Slots} {d : Nat} {v : Value} (h : lk s d = some v) (h' : Sub s s') : Sub s ((d, v) :: s') := fun e u he => by
  simp only [lk] at he
  cases hb : Nat.beq d e with
  | true =>
    have hde : d = e := Nat.eq_of_beq_eq_true hb
    rw [hb] at he
    simp only [cond_true, Option.some.injEq] at he
    subst hde; subst he; exact h
  | false => rw [hb] at he; exact h' e u he

/-! ### The goals -/
section
variable (P : Program) (n : Nat) (σ : Env) (R : Assn)
/-- code -/
def TC (c : Code) (Q : Exit → Act → World → Prop) (s : Slots) (L : List Assn) : Prop := ∀ a w, Sl n s a → Own σ L R w → c.wp P Q a w
/-- a list of operations, in this order -/
def TL (ops : Array Oper) (Q : Exit → Act → World → Prop) (l : List Oper) (s : Slots) (L : List Assn) : Prop := ∀ a w, Sl n s a → Own σ L R w → wpList P ops Q l a w
/-- what follows -/
def TK (K : Act → World → Prop) (s : Slots) (L : List Assn) : Prop := ∀ a w, Sl n s a → Own σ L R w → K a w
def TQ (Q : Exit → Act → World → Prop) (e : Exit) (s : Slots) (L : List Assn) : Prop := ∀ a w, Sl n s a → Own σ L R w → Q e a w
/-- a call -/
def Spec (f : FuncId) (args : Array Value) (pre : List Assn) {X : Type} (q : X → Prop) (ret : X → Value) (post : X → List Assn) : Prop :=
  ∀ (σ : Env) (R : Assn) (w : World), Own σ pre R w → Calls P f args w fun e w' => ∃ x, e = .returned (ret x) ∧ q x ∧ Own σ (post x) R w'
end

section
variable {P : Program} {n : Nat} {σ : Env} {R : Assn} {Q : Exit → Act → World → Prop} {s : Slots} {L : List Assn}

theorem TC.seq {x y : Code} (h : TC P n σ R x (Exit.then (y.wp P Q) Q) s L) : TC P n σ R (.seq x y) Q s L := fun a w hs hw => wp_seq (h a w hs hw)
theorem TQ.then {y : Code} (h : TC P n σ R y Q s L) : TQ n σ R (Exit.then (y.wp P Q) Q) .normal s L := fun a w hs hw => h a w hs hw
theorem TQ.then_ret {K : Act → World → Prop} (h : TQ n σ R Q .ret s L) : TQ n σ R (Exit.then K Q) .ret s L := fun a w hs hw => h a w hs hw
theorem TQ.then_exit {K : Act → World → Prop} {i : Nat} (h : TQ n σ R Q (.exit i) s L) : TQ n σ R (Exit.then K Q) (.exit i) s L := fun a w hs hw => h a w hs hw
theorem TQ.blk_normal {id : Nat} (h : TQ n σ R Q .normal s L) : TQ n σ R (Exit.inBlock id Q) .normal s L := fun a w hs hw => h a w hs hw
theorem TQ.blk_ret {id : Nat} (h : TQ n σ R Q .ret s L) : TQ n σ R (Exit.inBlock id Q) .ret s L := fun a w hs hw => h a w hs hw
theorem TQ.blk_hit {id : Nat} (h : TQ n σ R Q .normal s L) : TQ n σ R (Exit.inBlock id Q) (.exit id) s L := fun a w hs hw => by simp only [Exit.inBlock, if_true]; exact h a w hs hw
theorem TQ.blk_miss {id i : Nat} (hi : Nat.beq i id = false) (h : TQ n σ R Q (.exit i) s L) : TQ n σ R (Exit.inBlock id Q) (.exit i) s L := fun a w hs hw => by
  simp only [Exit.inBlock, if_neg (Nat.ne_of_beq_eq_false hi)]; exact h a w hs hw
theorem TC.skip (h : TQ n σ R Q .normal s L) : TC P n σ R .skip Q s L := fun a w hs hw => wp_skip (h a w hs hw)
theorem TC.ret (h : TQ n σ R Q .ret s L) : TC P n σ R .ret Q s L := fun a w hs hw => wp_ret (h a w hs hw)
theorem TC.exit {i : Nat} (h : TQ n σ R Q (.exit i) s L) : TC P n σ R (.exit i) Q s L := fun a w hs hw => wp_exit (h a w hs hw)
theorem TC.block {id : Nat} {c : Code} (h : TC P n σ R c (Exit.inBlock id Q) s L) : TC P n σ R (.block id c) Q s L := fun a w hs hw => wp_block (h a w hs hw)
theorem TC.region {id : Nat} {l : List Oper} (h : TL P n σ R l.toArray Q l s L) : TC P n σ R (.region id l.toArray false) Q s L := fun a w hs hw => wp_region_lit (h a w hs hw)
theorem TL.nil {ops : Array Oper} (h : TQ n σ R Q .normal s L) : TL P n σ R ops Q [] s L := fun a w hs hw => h a w hs hw

/-- a test whose outcome is known -/
theorem TC.cond {x : Operand} {c d : Code} {t : Bool} (hx : ev s x = some (.bool t)) (ht : t = true → TC P n σ R c Q s L) (hf : t = false → TC P n σ R d Q s L) : TC P n σ R (.cond x c d) Q s L := fun a w hs hw =>
  wp_cond_split (hs.ev hx) (fun h => ht h a w hs hw) (fun h => hf h a w hs hw)
theorem TC.cond_true {x : Operand} {c d : Code} (hx : ev s x = some (.bool true)) (ht : TC P n σ R c Q s L) : TC P n σ R (.cond x c d) Q s L := TC.cond hx (fun _ => ht) (fun h => by cases h)
theorem TC.cond_false {x : Operand} {c d : Code} (hx : ev s x = some (.bool false)) (hf : TC P n σ R d Q s L) : TC P n σ R (.cond x c d) Q s L := TC.cond hx (fun h => by cases h) (fun _ => hf)
/-- a test on a decidable fact -/
theorem TC.cond_dec {x : Operand} {c d : Code} {q : Prop} [Decidable q] (hx : ev s x = some (.bool (decide q))) (ht : q → TC P n σ R c Q s L) (hf : ¬ q → TC P n σ R d Q s L) : TC P n σ R (.cond x c d) Q s L :=
  TC.cond hx (fun h => ht (of_decide_eq_true h)) (fun h => hf (of_decide_eq_false h))

/-- the state is said otherwise -/
theorem TC.conv {c : Code} {s' : Slots} {L' : List Assn} (h : TC P n σ R c Q s' L') (hs : Sub s s') (hL : Ent L L') : TC P n σ R c Q s L := fun a w ha hw => h a w (ha.sub hs) (hL _ _ _ hw)
theorem TQ.conv {e : Exit} {s' : Slots} {L' : List Assn} (h : TQ n σ R Q e s' L') (hs : Sub s s') (hL : Ent L L') : TQ n σ R Q e s L := fun a w ha hw => h a w (ha.sub hs) (hL _ _ _ hw)
theorem TL.conv {ops : Array Oper} {l : List Oper} {s' : Slots} {L' : List Assn} (h : TL P n σ R ops Q l s' L') (hs : Sub s s') (hL : Ent L L') : TL P n σ R ops Q l s L := fun a w ha hw => h a w (ha.sub hs) (hL _ _ _ hw)

/-! ### operations that yield a value and leave the world alone -/
/-- what 'o' yields in every state with these slots, in every world where the items of H hold -/
def Val (P : Program) (H : List Assn) (s : Slots) (op : Op) (v : Value) : Prop :=
  ∀ n a w, Sl n s a → Facts H w → ∀ (o : Oper), o.op = op → (execOp a.eval o).run P w = .ok (.value v) w

theorem TL.val {ops : Array Oper} {l : List Oper} {d ty : Nat} {op : Op} {pos : String} {af : Array Edge} {v : Value} (hv : Val P L s op v) (hn : Nat.blt d n = true)
    (h : TL P n σ R ops Q l ((d, v) :: s) L) : TL P n σ R ops Q (⟨some d, op, ty, pos, af, none⟩ :: l) s L := fun a w hs hw =>
  wpList_plain rfl fun K hK => by
    unfold Oper.wp
    rw [hv n a w hs hw.facts _ rfl, Oper.upon_value]
    exact hK _ _ (h _ _ (hs.put v hn) hw)


theorem TL.run {ops : Array Oper} {o : Oper} {l : List Oper} (h : ∀ a w, Sl n s a → Own σ L R w → ∀ K : Act → World → Prop, (∀ a w, wpList P ops Q l a w → K a w) → Oper.wp P o a w K Q)
    (hg : o.guard = none) : TL P n σ R ops Q (o :: l) s L := fun a w hs hw => wpList_plain hg (h a w hs hw)

theorem Sl.yielded {ops : Array Oper} {a : Act} (hs : Sl n s a) {j dj : Nat} {b : Bool} (hj : (ops[j]?).bind (·.dst) = some dj) (hv : lk s dj = some (.bool b)) : yielded ops a.tmps j = some b := by
  unfold Go.yielded; rw [hj]; simp [hs.get _ _ hv]
theorem Sl.yielded_undef {ops : Array Oper} {a : Act} (hs : Sl n s a) {j dj : Nat} (hj : (ops[j]?).bind (·.dst) = some dj) (hv : lk s dj = some undef) : Go.yielded ops a.tmps j = none := by
  unfold Go.yielded; rw [hj]; simp [hs.get _ _ hv, undef]

/-- the guard says no -/
theorem TL.skip {ops : Array Oper} {l : List Oper} {d j dj ty : Nat} {op : Op} {pos : String} {af : Array Edge} {b : Bool} (hj : (ops[j]?).bind (·.dst) = some dj)
    (hv : lk s dj = some (.bool (!b))) (hn : Nat.blt d n = true) (h : TL P n σ R ops Q l ((d, undef) :: s) L) : TL P n σ R ops Q (⟨some d, op, ty, pos, af, some (j, b)⟩ :: l) s L := fun a w hs hw => by
  have hw0 : Region.wanted ⟨some d, op, ty, pos, af, some (j, b)⟩ (yielded ops a.tmps) = false := by
    unfold Region.wanted; simp only [hs.yielded hj hv]; cases b <;> rfl
  exact wpList_skip hw0 (h _ _ (hs.put undef hn) hw)
theorem TL.skip_undef {ops : Array Oper} {l : List Oper} {d j dj ty : Nat} {op : Op} {pos : String} {af : Array Edge} {b : Bool} (hj : (ops[j]?).bind (·.dst) = some dj)
    (hv : lk s dj = some undef) (hn : Nat.blt d n = true) (h : TL P n σ R ops Q l ((d, undef) :: s) L) : TL P n σ R ops Q (⟨some d, op, ty, pos, af, some (j, b)⟩ :: l) s L := fun a w hs hw => by
  have hw0 : Region.wanted ⟨some d, op, ty, pos, af, some (j, b)⟩ (yielded ops a.tmps) = false := by
    unfold Region.wanted; simp only [hs.yielded_undef hj hv]; cases b <;> rfl
  exact wpList_skip hw0 (h _ _ (hs.put undef hn) hw)

/-- the guard says yes -/
theorem TL.want {ops : Array Oper} {l : List Oper} {j dj ty : Nat} {dst : Option Tmp} {op : Op} {pos : String} {af : Array Edge} {b : Bool} (hj : (ops[j]?).bind (·.dst) = some dj)
    (hv : lk s dj = some (.bool b)) (h : TL P n σ R ops Q (⟨dst, op, ty, pos, af, none⟩ :: l) s L) : TL P n σ R ops Q (⟨dst, op, ty, pos, af, some (j, b)⟩ :: l) s L := fun a w hs hw => by
  have hw0 : Region.wanted ⟨dst, op, ty, pos, af, some (j, b)⟩ (yielded ops a.tmps) = true := by
    unfold Region.wanted; simp only [hs.yielded hj hv]; cases b <;> rfl
  have h1 := h a w hs hw
  unfold wpList at h1 ⊢
  rw [if_pos hw0]
  rw [if_pos (show Region.wanted ⟨dst, op, ty, pos, af, none⟩ (yielded ops a.tmps) = true from rfl)] at h1
  exact h1
/-- the guard is parted on -/
theorem TL.part {ops : Array Oper} {l : List Oper} {dj : Nat} {t : Bool} (hv : lk s dj = some (.bool t))
    (ht : t = true → TL P n σ R ops Q l ((dj, .bool true) :: s) L) (hf : t = false → TL P n σ R ops Q l ((dj, .bool false) :: s) L) : TL P n σ R ops Q l s L := fun a w hs hw => by
  cases t with
  | true => exact ht rfl a w (hs.sub (Sub.cons hv (fun _ _ h => h))) hw
  | false => exact hf rfl a w (hs.sub (Sub.cons hv (fun _ _ h => h))) hw
theorem TL.part_dec {ops : Array Oper} {l : List Oper} {dj : Nat} {q : Prop} [Decidable q] (hv : lk s dj = some (.bool (decide q)))
    (ht : q → TL P n σ R ops Q l ((dj, .bool true) :: s) L) (hf : ¬ q → TL P n σ R ops Q l ((dj, .bool false) :: s) L) : TL P n σ R ops Q l s L :=
  TL.part hv (fun h => ht (of_decide_eq_true h)) (fun h => hf (of_decide_eq_false h))
end

/-! ### the values -/
section
variable {P : Program} {H : List Assn} {s : Slots}

def evs (s : Slots) : List Operand → Option (List Value)
  | [] => some []
  | x :: xs => match ev s x, evs s xs with
    | some v, some vs => some (v :: vs)
    | _, _ => none

theorem Sl.evs {n : Nat} {a : Act} (h : Sl n s a) : ∀ {xs : List Operand} {vs : List Value}, Wd.evs s xs = some vs → xs.map a.eval = vs
  | [], vs, he => by simp [Wd.evs] at he; simp [← he]
  | x :: xs, vs, he => by
    simp only [Wd.evs] at he
    cases h1 : Wd.ev s x with
    | none => rw [h1] at he; simp at he
    | some v =>
      cases h2 : Wd.evs s xs with
      | none => rw [h1, h2] at he; simp at he
      | some us =>
        rw [h1, h2] at he
        simp only [Option.some.injEq] at he
        subst he
        simp [h.ev h1, Sl.evs h h2]

theorem Val.move {x : Operand} {v : Value} (hx : ev s x = some v) : Val P H s (.move x) v := fun n a w hs _ o ho => by
  unfold execOp; rw [ho]; simp only [hs.ev hx]; rfl
theorem Val.assign {x : Operand} {v : Value} (hx : ev s x = some v) : Val P H s (.assign x) v := fun n a w hs _ o ho => by
  unfold execOp; rw [ho]; simp only [hs.ev hx]; rfl
theorem Val.nilCheck {x : Operand} {p : Addr} (hx : ev s x = some (.pointer (some p))) : Val P H s (.nilCheck x) (.pointer (some p)) := fun n a w hs _ o ho => by
  unfold execOp; rw [ho]; simp only [hs.ev hx]; rfl
theorem Val.nilCheckFn {x : Operand} {f : FuncId} {fs cs : Array Value} (hx : ev s x = some (.func (.func f) fs cs)) : Val P H s (.nilCheck x) (.func (.func f) fs cs) := fun n a w hs _ o ho => by
  unfold execOp; rw [ho]; simp only [hs.ev hx]; rfl

/-- the sem's value wrapped -/
theorem run_v {m : Sem Value} {v : Value} {w w' : World} (h : m.run P w = .ok v w') : (do pure (.value (← m)) : Sem Next).run P w = .ok (.value v) w' := by
  rw [Sem.run_bind, h]; rfl

def FieldOff (P : Program) (S f k : Nat) : Prop := ∀ (a : Addr) (w : World), (Instr.fieldAt S (.pointer (some a)) f).run P w = .ok (.pointer (some (a.add k))) w

theorem FieldOff.of {S f k : Nat} (T z : Nat) {fs : Array Field} (hu : P.underlying S = some (.struct fs)) (hf : (fs[f]?).map (fun x => (x.type, x.offset)) = some (T, k)) (hz : ∀ w, (sizeOf T).run P w = .ok z w)
    (h0 : Nat.beq z 0 = false) : FieldOff P S f k := fun a w => by
  have hz0 : z ≠ 0 := Nat.ne_of_beq_eq_false h0
  have h1 : (underlying S).run P w = .ok (.struct fs) w := by
    unfold Go.underlying; simp [Sem.run_bind, Go.program, Sem.run, Result.andThen, hu]
  cases hg : fs[f]? with
  | none => rw [hg] at hf; cases hf
  | some fld =>
    rw [hg] at hf
    simp only [Option.map_some, Option.some.injEq, Prod.mk.injEq] at hf
    obtain ⟨rfl, rfl⟩ := hf
    simp only [Instr.fieldAt, Sem.run_bind, h1, Result.andThen, hg, Instr.sureAddr, Sem.run_pure, fieldPlace, hz, if_neg hz0]

theorem add_none (b o k : Nat) : Addr.add ⟨b, o, none⟩ k = ⟨b, o + k, none⟩ := by unfold Addr.add; split <;> simp_all

theorem Val.field {x : Operand} {S f k b off : Nat} (hf : FieldOff P S f k) (hx : ev s x = some (.pointer (some ⟨b, off, none⟩))) :
    Val P H s (.fieldAddr S x f) (.pointer (some ⟨b, off + k, none⟩)) := fun n a w hs _ o ho => by
  unfold execOp; rw [ho]; simp only [hs.ev hx]
  rw [← add_none]; exact run_v (hf _ w)

theorem row_cell {b off : Nat} {l : List Value} {T : Nat} {w : World} (h : w.heap[b]? = some (.cells l.toArray T)) : w.cell? ⟨b, off, none⟩ = l[off]? := by
  unfold World.cell?; simp [h]
theorem row_frozen {b off : Nat} {l : List Value} {T : Nat} {w : World} (h : w.heap[b]? = some (.cells l.toArray T)) : w.frozen? ⟨b, off, none⟩ = false := by
  unfold World.frozen?; simp [h]

theorem Val.load {x : Operand} {T b off T' : Nat} {l : List Value} {v : Value} {H' : List Assn} (ht : ∀ w, (isAgg T).run P w = .ok false w) (hx : ev s x = some (.pointer (some ⟨b, off, none⟩))) (hm : Take H (.row b l T') H') (hc : l[off]? = some v) : Val P H s (.load T x) v := fun n a w hs hw o ho => by
  unfold execOp; rw [ho]; simp only [hs.ev hx]
  have hb := (hw.get hm).blk
  refine run_v ?_
  simp only [Instr.loadAt, Instr.sureAddr, loadVar, Sem.run_bind, Sem.run_pure, Result.andThen, ht, run_load, row_cell hb, hc, Bool.false_eq_true, if_false]

theorem Val.loadAgg {x : Operand} {T b off T' k : Nat} {l vs : List Value} {H' : List Assn} (ht : ∀ w, (isAgg T).run P w = .ok true w) (hz : ∀ w, (sizeOf T).run P w = .ok k w) (hx : ev s x = some (.pointer (some ⟨b, off, none⟩))) (hm : Take H (.row b l T') H') (hc : (l.drop off).take k = vs) (hk : vs.length = k) : Val P H s (.load T x) (.agg vs.toArray) := fun n a w hs hw o ho => by
  unfold execOp; rw [ho]; simp only [hs.ev hx]
  have hb := (hw.get hm).blk
  refine run_v ?_
  have h1 := run_loadCells_list (P := P) w ⟨b, off, none⟩ vs (fun j v hj => by
    rw [add_none, row_cell hb]
    rw [← hc] at hj
    rw [List.getElem?_take] at hj
    split at hj
    · rw [List.getElem?_drop] at hj; exact hj
    · cases hj)
  rw [hk] at h1
  simp only [Instr.loadAt, Instr.sureAddr, loadVar, Sem.run_bind, Sem.run_pure, Result.andThen, ht, hz, if_true, h1]

/-! numbers -/
abbrev w32 (x : BitVec 32) : Value := .int .u32 (x.toNat : Int)
abbrev b8 (x : BitVec 8) : Value := .int .u8 (x.toNat : Int)
abbrev i64 (x : Int) : Value := .int .i64 x

theorem Val.bin {x y : Operand} {op : BinOp} {T yT : Nat} {u v r : Value} (hx : ev s x = some u) (hy : ev s y = some v)
    (hr : ∀ w, (do eqGuard op T x y u v; binOp op T u v : Sem Value).run P w = .ok r w) : Val P H s (.binOp op T x y yT) r := fun n a w hs _ o ho => by
  unfold execOp; rw [ho]; simp only [hs.ev hx, hs.ev hy]
  exact run_v (hr w)

theorem eqGuard_int {op : BinOp} {T : Nat} {x y : Operand} {k k' : IntKind} {a b : Int} (w : World) : (eqGuard op T x y (.int k a) (.int k' b)).run P w = .ok () w := by
  unfold eqGuard; split <;> rfl

theorem Val.lss {x y : Operand} {T yT : Nat} {k : IntKind} {a b : Int} (hx : ev s x = some (.int k a)) (hy : ev s y = some (.int k b)) : Val P H s (.binOp .lss T x y yT) (.bool (decide (a < b))) :=
  Val.bin hx hy fun w => by simp [eqGuard_int, binOp, Op.intCmp, Result.andThen]
theorem Val.leq {x y : Operand} {T yT : Nat} {k : IntKind} {a b : Int} (hx : ev s x = some (.int k a)) (hy : ev s y = some (.int k b)) : Val P H s (.binOp .leq T x y yT) (.bool (decide (a ≤ b))) :=
  Val.bin hx hy fun w => by simp [eqGuard_int, binOp, Op.intCmp, Result.andThen]
theorem Val.gtr {x y : Operand} {T yT : Nat} {k : IntKind} {a b : Int} (hx : ev s x = some (.int k a)) (hy : ev s y = some (.int k b)) : Val P H s (.binOp .gtr T x y yT) (.bool (decide (b < a))) :=
  Val.bin hx hy fun w => by simp [eqGuard_int, binOp, Op.intCmp, Result.andThen]
theorem Val.geq {x y : Operand} {T yT : Nat} {k : IntKind} {a b : Int} (hx : ev s x = some (.int k a)) (hy : ev s y = some (.int k b)) : Val P H s (.binOp .geq T x y yT) (.bool (decide (b ≤ a))) :=
  Val.bin hx hy fun w => by simp [eqGuard_int, binOp, Op.intCmp, Result.andThen]
theorem Val.eql {x y : Operand} {T yT : Nat} {k : IntKind} {a b : Int} (hx : ev s x = some (.int k a)) (hy : ev s y = some (.int k b)) : Val P H s (.binOp .eql T x y yT) (.bool (decide (a = b))) :=
  Val.bin hx hy fun w => by simp [eqGuard_int, binOp, Op.intCmp, Result.andThen, BEq.beq]
theorem Val.neq {x y : Operand} {T yT : Nat} {k : IntKind} {a b : Int} (hx : ev s x = some (.int k a)) (hy : ev s y = some (.int k b)) : Val P H s (.binOp .neq T x y yT) (.bool (decide (a ≠ b))) :=
  Val.bin hx hy fun w => by simp [eqGuard_int, binOp, Op.intCmp, Result.andThen, bne, BEq.beq]
theorem Val.add {x y : Operand} {T yT : Nat} {k : IntKind} {a b : Int} (hx : ev s x = some (.int k a)) (hy : ev s y = some (.int k b)) : Val P H s (.binOp .add T x y yT) (.int k (k.wrap (a + b))) :=
  Val.bin hx hy fun w => by simp [eqGuard_int, binOp, Op.intArith, Result.andThen]
theorem Val.sub {x y : Operand} {T yT : Nat} {k : IntKind} {a b : Int} (hx : ev s x = some (.int k a)) (hy : ev s y = some (.int k b)) : Val P H s (.binOp .sub T x y yT) (.int k (k.wrap (a - b))) :=
  Val.bin hx hy fun w => by simp [eqGuard_int, binOp, Op.intArith, Result.andThen]
theorem Val.mul {x y : Operand} {T yT : Nat} {k : IntKind} {a b : Int} (hx : ev s x = some (.int k a)) (hy : ev s y = some (.int k b)) : Val P H s (.binOp .mul T x y yT) (.int k (k.wrap (a * b))) :=
  Val.bin hx hy fun w => by simp [eqGuard_int, binOp, Op.intArith, Result.andThen]

theorem wrap_i64 {a : Int} (h1 : -9223372036854775808 ≤ a) (h2 : a ≤ 9223372036854775807) : IntKind.i64.wrap a = a :=
  IntWalk.i64_in a ⟨h1, h2⟩

theorem Val.add64 {x y : Operand} {T yT : Nat} {a b : Int} (hx : ev s x = some (.int .i64 a)) (hy : ev s y = some (.int .i64 b))
    (h : -9223372036854775808 ≤ a + b ∧ a + b ≤ 9223372036854775807) : Val P H s (.binOp .add T x y yT) (.int .i64 (a + b)) := by
  have := Val.add (P := P) (H := H) (T := T) (yT := yT) hx hy; rwa [wrap_i64 h.1 h.2] at this
theorem Val.sub64 {x y : Operand} {T yT : Nat} {a b : Int} (hx : ev s x = some (.int .i64 a)) (hy : ev s y = some (.int .i64 b))
    (h : -9223372036854775808 ≤ a - b ∧ a - b ≤ 9223372036854775807) : Val P H s (.binOp .sub T x y yT) (.int .i64 (a - b)) := by
  have := Val.sub (P := P) (H := H) (T := T) (yT := yT) hx hy; rwa [wrap_i64 h.1 h.2] at this
theorem Val.mul64 {x y : Operand} {T yT : Nat} {a b : Int} (hx : ev s x = some (.int .i64 a)) (hy : ev s y = some (.int .i64 b))
    (h : -9223372036854775808 ≤ a * b ∧ a * b ≤ 9223372036854775807) : Val P H s (.binOp .mul T x y yT) (.int .i64 (a * b)) := by
  have := Val.mul (P := P) (H := H) (T := T) (yT := yT) hx hy; rwa [wrap_i64 h.1 h.2] at this

theorem Val.not {x : Operand} {T : Nat} {b : Bool} (hx : ev s x = some (.bool b)) : Val P H s (.unOp .not T x) (.bool (!b)) := fun n a w hs _ o ho => by
  unfold execOp; rw [ho]; simp only [hs.ev hx]; rfl
theorem Val.not_dec {x : Operand} {T : Nat} {q : Prop} [Decidable q] (hx : ev s x = some (.bool (decide q))) : Val P H s (.unOp .not T x) (.bool (decide (¬ q))) := by
  have := Val.not (P := P) (H := H) (T := T) hx; rwa [← decide_not] at this
theorem Val.pick_true {c x y : Operand} {v : Value} (hc : ev s c = some (.bool true)) (hx : ev s x = some v) : Val P H s (.pick c x y) v := fun n a w hs _ o ho => by
  unfold execOp; rw [ho]; simp only [hs.ev hx, hs.ev hc]; rfl
theorem Val.pick_false {c x y : Operand} {v : Value} (hc : ev s c = some (.bool false)) (hx : ev s y = some v) : Val P H s (.pick c x y) v := fun n a w hs _ o ho => by
  unfold execOp; rw [ho]; simp only [hs.ev hx, hs.ev hc]; rfl
theorem Val.extract {x : Operand} {i : Nat} {vs : List Value} {v : Value} (hx : ev s x = some (.tuple vs.toArray)) (hv : vs[i]? = some v) : Val P H s (.extract x i) v := fun n a w hs _ o ho => by
  unfold execOp; rw [ho]; simp only [hs.ev hx]; exact run_v (by simp [Instr.extract, hv])
theorem run_underlying {T : Nat} {d : TypeDesc} (h : P.underlying T = some d) (w : World) : (underlying T).run P w = .ok d w := by
  unfold Go.underlying; simp [Sem.run_bind, Go.program, Sem.run, Result.andThen, h]

theorem Val.len {x : Operand} {T E : Nat} {p : Option Addr} {k c : Nat} (ht : P.underlying T = some (.slice E)) (hx : ev s x = some (.slice p k c)) : Val P H s (.call ⟨.builtin .len, #[x], #[T]⟩) (.int .i64 k) := fun n a w hs _ o ho => by
  unfold execOp; rw [ho]; simp only [resolve, List.map_toArray, List.map_cons, List.map_nil, hs.ev hx]
  simp [Sem.run_bind, invoke, builtin, Builtin.len_, Result.andThen, run_underlying ht, goInt]
theorem Val.lenStr {x : Operand} {T : Nat} {b : ByteArray} (ht : P.underlying T = some .string) (hx : ev s x = some (.string b)) : Val P H s (.call ⟨.builtin .len, #[x], #[T]⟩) (.int .i64 b.size) := fun n a w hs _ o ho => by
  unfold execOp; rw [ho]; simp only [resolve, List.map_toArray, List.map_cons, List.map_nil, hs.ev hx]
  simp [Sem.run_bind, invoke, builtin, Builtin.len_, Result.andThen, run_underlying ht, goInt]

/-- the address of an element of a slice -/
theorem Val.ixSlice {x i : Operand} {T E z b off k c : Nat} {ki : IntKind} {j : Int} (ht : P.underlying T = some (.slice E)) (hz : ∀ w, (sizeOf E).run P w = .ok z w) (hx : ev s x = some (.slice (some ⟨b, off, none⟩) k c)) (hi : ev s i = some (.int ki j)) (hj : 0 ≤ j ∧ j < k) : Val P H s (.indexAddr T x i) (.pointer (some ⟨b, off + j.toNat * z, none⟩)) := fun n a w hs _ o ho => by
  unfold execOp; rw [ho]; simp only [hs.ev hx, hs.ev hi]
  refine run_v ?_
  simp only [Instr.indexAt, asIntOf, Sem.run_bind, Sem.run_pure, Result.andThen, run_underlying ht, if_pos hj, hz, add_none]
theorem Val.ixArr {x i : Operand} {T E z b off k : Nat} {ki : IntKind} {j : Int} (ht : P.underlying T = some (.array k E)) (hz : ∀ w, (sizeOf E).run P w = .ok z w) (hx : ev s x = some (.pointer (some ⟨b, off, none⟩))) (hi : ev s i = some (.int ki j)) (hj : 0 ≤ j ∧ j < k) : Val P H s (.indexAddr T x i) (.pointer (some ⟨b, off + j.toNat * z, none⟩)) := fun n a w hs _ o ho => by
  unfold execOp; rw [ho]; simp only [hs.ev hx, hs.ev hi]
  refine run_v ?_
  simp only [Instr.indexAt, asIntOf, Instr.sureAddr, Sem.run_bind, Sem.run_pure, Result.andThen, run_underlying ht, if_pos hj, hz, add_none]

def isCell : Value → Bool
  | .agg _ | .tuple _ => false
  | _ => true
theorem isCell_cells {v : Value} (h : isCell v = true) : v.cells = #[v] := by cases v <;> simp_all [isCell, Value.cells]
theorem isCell_one {v : Value} (h : isCell v = true) : v.oneCell' = true := by cases v <;> simp_all [isCell, Value.oneCell']

end

/-! ### operations that turn the world -/
section
variable {P : Program} {n : Nat} {σ : Env} {R : Assn} {Q : Exit → Act → World → Prop} {s : Slots} {L L' : List Assn} {ops : Array Oper} {l : List Oper} {ty : Nat} {pos : String} {af : Array Edge}

theorem TL.eff {d : Nat} {op : Op} {v : Value} {L' : List Assn} (hn : Nat.blt d n = true)
    (hr : ∀ a w, Sl n s a → Own σ L R w → ∀ o : Oper, o.op = op → ∃ w', (execOp a.eval o).run P w = .ok (.value v) w' ∧ Own σ L' R w')
    (h : TL P n σ R ops Q l ((d, v) :: s) L') : TL P n σ R ops Q (⟨some d, op, ty, pos, af, none⟩ :: l) s L := fun a w hs hw =>
  wpList_plain rfl fun K hK => by
    obtain ⟨w', h1, h2⟩ := hr a w hs hw ⟨some d, op, ty, pos, af, none⟩ rfl
    unfold Oper.wp
    rw [h1, Oper.upon_value]
    exact hK _ _ (h _ _ (hs.put v hn) h2)
theorem TL.effNew {d : Nat} {op : Op} {v : Nat → Value} {L' : Nat → List Assn} (hn : Nat.blt d n = true)
    (hr : ∀ a w, Sl n s a → Own σ L R w → ∀ o : Oper, o.op = op → ∃ b w', (execOp a.eval o).run P w = .ok (.value (v b)) w' ∧ Own σ (L' b) R w')
    (h : ∀ b, TL P n σ R ops Q l ((d, v b) :: s) (L' b)) : TL P n σ R ops Q (⟨some d, op, ty, pos, af, none⟩ :: l) s L := fun a w hs hw =>
  wpList_plain rfl fun K hK => by
    obtain ⟨b, w', h1, h2⟩ := hr a w hs hw ⟨some d, op, ty, pos, af, none⟩ rfl
    unfold Oper.wp
    rw [h1, Oper.upon_value]
    exact hK _ _ (h b _ _ (hs.put _ hn) h2)
theorem TL.effSkip {op : Op} {L' : List Assn}
    (hr : ∀ a w, Sl n s a → Own σ L R w → ∀ o : Oper, o.op = op → ∃ w', (execOp a.eval o).run P w = .ok .skip w' ∧ Own σ L' R w')
    (h : TL P n σ R ops Q l s L') : TL P n σ R ops Q (⟨none, op, ty, pos, af, none⟩ :: l) s L := fun a w hs hw =>
  wpList_plain rfl fun K hK => by
    obtain ⟨w', h1, h2⟩ := hr a w hs hw ⟨none, op, ty, pos, af, none⟩ rfl
    unfold Oper.wp
    rw [h1, Oper.upon_skip]
    exact hK _ _ (h _ _ hs h2)

theorem newVar_run (T : Nat) (v : Value) (w : World) : (newVar T v).run P w = .ok ⟨w.heap.size, 0, none⟩ { w with heap := w.heap.push (.cells v.cells T) } := by
  simp [newVar, newRow, newObj, Sem.run, Result.andThen]

theorem TL.alloc {d T : Nat} {z : Value} {zs : List Value} (hz : ∀ w, (zeroValue T).run P w = .ok z w) (hc : z.cells = zs.toArray) (hn : Nat.blt d n = true)
    (h : ∀ b, TL P n σ R ops Q l ((d, .pointer (some ⟨b, 0, none⟩)) :: s) (.row b zs T :: L)) : TL P n σ R ops Q (⟨some d, .alloc T, ty, pos, af, none⟩ :: l) s L :=
  TL.effNew (v := fun b => .pointer (some ⟨b, 0, none⟩)) (L' := fun b => .row b zs T :: L) hn (fun a w hs hw o ho => by
    refine ⟨w.heap.size, { w with heap := w.heap.push (.cells z.cells T) }, ?_, ?_⟩
    · unfold execOp; rw [ho]; simp only
      refine run_v ?_
      simp [Instr.alloc, Sem.run_bind, hz, Result.andThen, newVar_run]
    · rw [hc]; exact hw.alloc _) h
theorem TL.box {d T : Nat} {x : Operand} {v : Value} {vs : List Value} (hx : ev s x = some v) (hc : v.cells = vs.toArray) (hn : Nat.blt d n = true)
    (h : ∀ b, TL P n σ R ops Q l ((d, .pointer (some ⟨b, 0, none⟩)) :: s) (.row b vs T :: L)) : TL P n σ R ops Q (⟨some d, .box T x, ty, pos, af, none⟩ :: l) s L :=
  TL.effNew (v := fun b => .pointer (some ⟨b, 0, none⟩)) (L' := fun b => .row b vs T :: L) hn (fun a w hs hw o ho => by
    refine ⟨w.heap.size, { w with heap := w.heap.push (.cells v.cells T) }, ?_, ?_⟩
    · unfold execOp; rw [ho]; simp only [hs.ev hx]
      refine run_v ?_
      simp [Instr.box, Result.andThen, newVar_run]
    · rw [hc]; exact hw.alloc _) h

theorem setRow_at {w : World} {b : Nat} {cs cs' : Array Value} {T : Nat} (h : w.heap[b]? = some (.cells cs T)) : (w.setRow b cs').heap[b]? = some (.cells cs' T) ∧ ∀ x, x ≠ b → (w.setRow b cs').heap[x]? = w.heap[x]? := by
  unfold World.setRow
  refine ⟨?_, fun x hx => ?_⟩
  · simp [Array.getElem?_modify, h]
  · simp [Array.getElem?_modify, Ne.symm hx]

theorem Own.setRow {w : World} {b T : Nat} {vs us : List Value} (hw : Own σ L R w) (ht : Take L (.row b vs T) L') : Own σ (.row b us T :: L') R (w.setRow b us.toArray) := by
  have h1 := (hw.holds ht).blk
  have h2 := setRow_at (cs' := us.toArray) h1
  exact hw.turn ht (fun h => h) h2.1 h2.2

/-- an item of the list turns, at its place -/
inductive Upd : List Assn → Assn → Assn → List Assn → Prop
  | here {A B : Assn} {L : List Assn} : Upd (A :: L) A B (B :: L)
  | there {A B C : Assn} {L L' : List Assn} (h : Upd L A B L') : Upd (C :: L) A B (C :: L')

theorem Upd.takes {L L' : List Assn} {A B : Assn} (h : Upd L A B L') : ∃ M, Take L A M ∧ Take L' B M := by
  induction h with
  | here => exact ⟨_, .here, .here⟩
  | there _ ih => obtain ⟨M, h1, h2⟩ := ih; exact ⟨_, .there h1, .there h2⟩

theorem Own.back {w : World} {A : Assn} {M : List Assn} (h : Take L A M) (hw : Own σ (A :: M) R w) : Own σ L R w := by
  obtain ⟨he, F, hF⟩ := hw
  exact ⟨he, F, Assn.sep_mono (fun F x => h.all' x) (fun F x => x) hF⟩

theorem Own.setRow' {w : World} {b T : Nat} {vs us : List Value} (hw : Own σ L R w) (hu : Upd L (.row b vs T) (.row b us T) L') : Own σ L' R (w.setRow b us.toArray) := by
  obtain ⟨M, h1, h2⟩ := hu.takes
  exact Own.back h2 (hw.setRow h1)

theorem TL.store {x y : Operand} {T b off T' : Nat} {vs : List Value} {v : Value} (hz : ∀ w, (sizeOf T).run P w = .ok 1 w)
    (hx : ev s x = some (.pointer (some ⟨b, off, none⟩))) (hy : ev s y = some v) (hv : isCell v = true) (hm : Upd L (.row b vs T') (.row b (vs.set off v) T') L') (hl : Nat.blt off vs.length = true)
    (h : TL P n σ R ops Q l s L') : TL P n σ R ops Q (⟨none, .store T x y, ty, pos, af, none⟩ :: l) s L :=
  TL.effSkip (fun a w hs hw o ho => by
    refine ⟨w.setRow b (vs.set off v).toArray, ?_, hw.setRow' hm⟩
    obtain ⟨M, hm1, _⟩ := hm.takes
    have hb := (hw.holds hm1).blk
    have hl' : off < vs.length := Nat.le_of_ble_eq_true hl
    unfold execOp; rw [ho]; simp only [hs.ev hx, hs.ev hy]
    have h1 := run_storeCells_at (P := P) b off T' [v] 0 vs.toArray w hb (by simp; omega) (by intro u hu; simp at hu; subst hu; exact isCell_one hv)
    have e : vs.set off v = vs.take (off + 0) ++ [v] ++ vs.drop (off + 0 + [v].length) := by
      rw [List.set_eq_take_append_cons_drop, if_pos hl']; simp
    simp only [Instr.storeAt, Instr.sureAddr, storeVar, Sem.run_bind, Sem.run_pure, Result.andThen, hz, isCell_cells hv]
    simp only [List.size_toArray, List.length_cons, List.length_nil, Nat.zero_add, ne_eq, not_true_eq_false, if_false, h1, e]) h

theorem TL.storeAgg {x y : Operand} {T b off T' k : Nat} {vs us : List Value} (hz : ∀ w, (sizeOf T).run P w = .ok k w)
    (hx : ev s x = some (.pointer (some ⟨b, off, none⟩))) (hy : ev s y = some (.agg us.toArray)) (hv : us.all isCell = true) (hk : us.length = k)
    (hm : Upd L (.row b vs T') (.row b (vs.take off ++ us ++ vs.drop (off + k)) T') L') (hl : Nat.ble (off + k) vs.length = true)
    (h : TL P n σ R ops Q l s L') : TL P n σ R ops Q (⟨none, .store T x y, ty, pos, af, none⟩ :: l) s L :=
  TL.effSkip (fun a w hs hw o ho => by
    refine ⟨w.setRow b (vs.take off ++ us ++ vs.drop (off + k)).toArray, ?_, hw.setRow' hm⟩
    obtain ⟨M, hm1, _⟩ := hm.takes
    have hb := (hw.holds hm1).blk
    have hl' : off + k ≤ vs.length := Nat.le_of_ble_eq_true hl
    unfold execOp; rw [ho]; simp only [hs.ev hx, hs.ev hy]
    have h1 := run_storeCells_at (P := P) b off T' us 0 vs.toArray w hb (by simp; omega) (by intro u hu; exact isCell_one (List.all_eq_true.1 hv u hu))
    simp only [Instr.storeAt, Instr.sureAddr, storeVar, Sem.run_bind, Sem.run_pure, Result.andThen, hz, Value.cells]
    subst hk
    simp only [List.size_toArray, ne_eq, not_true_eq_false, if_false, h1]
    simp) h
/-- the whole row is written -/
theorem TL.storeAll {x y : Operand} {T b T' k : Nat} {vs us : List Value} (hz : ∀ w, (sizeOf T).run P w = .ok k w)
    (hx : ev s x = some (.pointer (some ⟨b, 0, none⟩))) (hy : ev s y = some (.agg us.toArray)) (hv : us.all isCell = true) (hk : us.length = k) (hm : Upd L (.row b vs T') (.row b us T') L') (hl : vs.length = k)
    (h : TL P n σ R ops Q l s L') : TL P n σ R ops Q (⟨none, .store T x y, ty, pos, af, none⟩ :: l) s L := by
  have e : vs.take 0 ++ us ++ vs.drop (0 + k) = us := by rw [List.drop_eq_nil_of_le (by omega)]; simp
  exact TL.storeAgg hz hx hy hv hk (by rw [e]; exact hm) (Nat.ble_eq_true_of_le (by omega)) h

theorem TL.call {X : Type} {d f : Nat} {args : List Operand} {ats : Array TypeId} {vs : List Value} {pre rest : List Assn} {q : X → Prop} {ret : X → Value} {post : X → List Assn}
    (hc : ∀ args w, (callFunc f args).run P w = .ok (.enter f args) w) (hS : Spec P f vs.toArray pre q ret post)
    (ha : evs s args = some vs) (hp : Pick L pre rest) (hn : Nat.blt d n = true)
    (h : ∀ x, q x → TL P n σ R ops Q l ((d, ret x) :: s) (post x ++ rest)) : TL P n σ R ops Q (⟨some d, .call ⟨.value (.func f), args.toArray, ats⟩, ty, pos, af, none⟩ :: l) s L := fun a w hs hw =>
  wpList_plain rfl fun K hK => by
    unfold Oper.wp execOp
    simp only [resolve, Deferred.ofValue, Act.eval, List.map_toArray, hs.evs ha, Sem.run_bind, Sem.run_pure, Result.andThen, invoke, Array.append_empty, Array.empty_append, hc]
    rw [Oper.upon_enter]
    refine (hS σ _ w (hw.focus hp)).mono ?_
    rintro e w' ⟨x, rfl, hq, hw'⟩
    exact hK _ _ (h x hq _ _ (hs.put _ hn) hw'.unfocus)
end

/-! ### functions -/
def number : Nat → List Value → Slots
  | _, [] => []
  | i, v :: vs => (i, v) :: number (i + 1) vs

theorem lk_number : ∀ (vs : List Value) (i d : Nat) (v : Value), lk (number i vs) d = some v → i ≤ d ∧ vs[d - i]? = some v
  | [], _, _, _, h => by simp [number, lk] at h
  | u :: vs, i, d, v, h => by
    simp only [number, lk] at h
    cases hb : Nat.beq i d with
    | true =>
      have e : i = d := Nat.eq_of_beq_eq_true hb
      rw [hb] at h; simp only [cond_true, Option.some.injEq] at h
      subst e; subst h; simp
    | false =>
      rw [hb] at h
      have := lk_number vs (i + 1) d v h
      refine ⟨by omega, ?_⟩
      rw [show d - i = (d - (i + 1)) + 1 by omega]; simpa using this.2

/-- what a function's end must bring -/
def Ret (σ : Env) (R : Assn) {X : Type} (q : X → Prop) (ret : X → Value) (post : X → List Assn) : Ending → World → Prop :=
  fun e w' => ∃ x, e = .returned (ret x) ∧ q x ∧ Own σ (post x) R w'

theorem Spec.body {P : Program} {f : FuncId} {fn : Func} {c : Code} {n : Nat} {vs : List Value} {pre : List Assn} {X : Type} {q : X → Prop} {ret : X → Value} {post : X → List Assn}
    (hf : P.funcs[f]? = some fn) (hb : fn.body = some c) (hn : fn.ntmps = n) (hv : Nat.ble vs.length n = true)
    (h : ∀ σ R, TC P n σ R c (bodyPost P fn (Ret σ R q ret post)) (number 0 vs) pre) : Spec P f vs.toArray pre q ret post := fun σ R w hw => by
  have hv' : vs.length ≤ n := Nat.le_of_ble_eq_true hv
  refine calls_of_wp hf hb (h σ R _ w ⟨rfl, by simp [hn]; omega, fun d v hd => ?_⟩ hw)
  have h1 := (lk_number vs 0 d v hd).2
  simp only [Nat.sub_zero] at h1
  have hlt := (List.getElem?_eq_some_iff.1 h1).1
  rw [Array.getElem?_append_left (by simpa using hlt)]
  simpa using h1

section
variable {P : Program} {n : Nat} {σ : Env} {R : Assn} {s : Slots} {L L' : List Assn} {fn : Func} {X : Type} {q : X → Prop} {ret : X → Value} {post : X → List Assn}
theorem TQ.ret0 {e : Exit} (he : e = .ret ∨ e = .normal) (hr : fn.results = #[]) (x : X) (hx : ret x = .tuple #[]) (hq : q x) (hL : Ent L (post x)) : TQ n σ R (bodyPost P fn (Ret σ R q ret post)) e s L := fun a w hs hw => by
  have : a.defers = [] ∧ ∃ v, (results fn a.tmps).run P w = .ok v w ∧ Ret σ R q ret post (.returned v) w :=
    ⟨hs.defers, .tuple #[], by simp [results, hr], x, by rw [hx], hq, hL _ _ _ hw⟩
  rcases he with rfl | rfl <;> exact this
theorem TQ.ret1 {r : Nat} {v : Value} (hr : fn.results = #[.tmp r]) (hv : lk s r = some v) (x : X) (hx : ret x = v) (hq : q x) (hL : Ent L (post x)) : TQ n σ R (bodyPost P fn (Ret σ R q ret post)) .ret s L := fun a w hs hw =>
  ⟨hs.defers, v, by rw [results_tmp hr]; congr 1; exact hs.ev (x := .tmp r) hv, x, by rw [hx], hq, hL _ _ _ hw⟩
theorem TQ.ret2 {r t : Nat} {v u : Value} (hr : fn.results = #[.tmp r, .tmp t]) (hv : lk s r = some v) (hu : lk s t = some u) (x : X) (hx : ret x = .tuple #[v, u]) (hq : q x) (hL : Ent L (post x)) :
    TQ n σ R (bodyPost P fn (Ret σ R q ret post)) .ret s L := fun a w hs hw =>
  ⟨hs.defers, .tuple #[v, u], by rw [results_tmp2 hr]; have e1 := hs.ev (x := .tmp r) hv; have e2 := hs.ev (x := .tmp t) hu; simp only [Act.eval] at e1 e2; rw [e1, e2], x, by rw [hx], hq, hL _ _ _ hw⟩
end

/-! ### loops -/
theorem wp_loop_ghost {P : Program} {X : Type} {c : Code} {Q : Exit → Act → World → Prop} {a : Act} {w : World} (I : X → Act → World → Prop) (μ : X → Nat) (x0 : X) (h₀ : I x0 a w)
    (round : ∀ x a w, I x a w → c.wp P (Exit.then (fun a' w' => ∃ y, μ y < μ x ∧ I y a' w') Q) a w) : (Code.loop c).wp P Q a w := by
  intro b k cs
  have key : ∀ n x a w, μ x = n → I x a w →
      ∃ e a' w', Q e a' w' ∧ Arrives P (lone (b.at a (.code c :: .inLoop c :: k)) cs w) b k cs e a' w' := by
    intro n
    induction n using Nat.strongRecOn with
    | _ n ih =>
      intro x a w hn hI
      obtain ⟨e, a₁, w₁, hq, harr⟩ := round x a w hI b (.inLoop c :: k) cs
      cases e with
      | normal =>
        obtain ⟨y, hlt, hI₁⟩ := hq
        obtain ⟨e₂, a₂, w₂, hq₂, harr₂⟩ := ih (μ y) (hn ▸ hlt) y a₁ w₁ rfl hI₁
        exact ⟨e₂, a₂, w₂, hq₂, .of_steps (Steps.trans harr (.one step_inLoop)) harr₂⟩
      | exit id => exact ⟨_, a₁, w₁, hq, .pass (x := .inLoop c) rfl (fun _ _ => .inl (by simp)) harr⟩
      | goto l => exact ⟨_, a₁, w₁, hq, .pass (x := .inLoop c) rfl (fun _ _ => .inl (by simp)) harr⟩
      | ret => exact ⟨_, a₁, w₁, hq, .pass (x := .inLoop c) rfl (fun _ _ => .inl (by simp)) harr⟩
      | panic ch => exact ⟨_, a₁, w₁, hq, .pass (x := .inLoop c) rfl (fun _ _ => .inl (by simp)) harr⟩
      | outgrown => exact ⟨_, a₁, w₁, hq, .pass (x := .inLoop c) rfl (fun _ _ => .inl (by simp)) harr⟩
  obtain ⟨e, a', w', hq, harr⟩ := key _ x0 a w rfl h₀
  exact ⟨e, a', w', hq, .of_steps (.one step_loop) harr⟩

/-- a round's end: the relation again, at a smaller measure -/
def Next (n : Nat) (σ : Env) (R : Assn) {X : Type} (sI : X → Slots) (LI : X → List Assn) (μ : X → Nat) (x : X) : Act → World → Prop :=
  fun a w => ∃ y, μ y < μ x ∧ Sl n (sI y) a ∧ Own σ (LI y) R w

section
variable {P : Program} {n : Nat} {σ : Env} {R : Assn} {Q : Exit → Act → World → Prop} {s : Slots} {L L' : List Assn} {ops : Array Oper} {l : List Oper}

theorem TC.loop0 {X : Type} {body : Code} (sI : X → Slots) (LI : X → List Assn) (μ : X → Nat) (x0 : X) (hs : Sub s (sI x0)) (hL : Ent L (LI x0))
    (h : ∀ x, TC P n σ R body (Exit.then (Next n σ R sI LI μ x) Q) (sI x) (LI x)) : TC P n σ R (.loop body) Q s L := fun a w ha hw =>
  wp_loop_ghost (fun x a w => Sl n (sI x) a ∧ Own σ (LI x) R w) μ x0 ⟨ha.sub hs, hL _ _ _ hw⟩ (fun x a w hI => h x a w hI.1 hI.2)
theorem TQ.next {X : Type} {sI : X → Slots} {LI : X → List Assn} {μ : X → Nat} {x : X} (y : X) (hm : μ y < μ x) (hs : Sub s (sI y)) (hL : Ent L (LI y)) :
    TQ n σ R (Exit.then (Next n σ R sI LI μ x) Q) .normal s L := fun a w ha hw => ⟨y, hm, ha.sub hs, hL _ _ _ hw⟩

theorem Own.pickAll {L M rest : List Assn} {w : World} (hp : Pick L M rest) (h : Own σ L R w) : Own σ (M ++ rest) R w := (h.focus hp).unfocus
theorem TC.loop {X : Type} {body : Code} {s0 : Slots} {rest : List Assn} (sI : X → Slots) (LI : X → List Assn) (μ : X → Nat) (x0 : X) (hs : Sub s (sI x0 ++ s0)) (hp : Pick L (LI x0) rest)
    (h : ∀ x, TC P n σ R body (Exit.then (Next n σ R (fun x => sI x ++ s0) (fun x => LI x ++ rest) μ x) Q) (sI x ++ s0) (LI x ++ rest)) : TC P n σ R (.loop body) Q s L :=
  TC.loop0 (fun x => sI x ++ s0) (fun x => LI x ++ rest) μ x0 hs (fun _ _ _ hw => hw.pickAll hp) h
theorem TC.ent {c : Code} {L' : List Assn} (hL : Ent L L') (h : TC P n σ R c Q s L') : TC P n σ R c Q s L := fun a w ha hw => h a w ha (hL _ _ _ hw)
theorem TL.ent {L' : List Assn} (hL : Ent L L') (h : TL P n σ R ops Q l s L') : TL P n σ R ops Q l s L := fun a w ha hw => h a w ha (hL _ _ _ hw)
theorem TQ.ent {e : Exit} {L' : List Assn} (hL : Ent L L') (h : TQ n σ R Q e s L') : TQ n σ R Q e s L := fun a w ha hw => h a w ha (hL _ _ _ hw)
theorem TL.slot {d : Nat} {v : Value} (h : lk s d = some v) (h' : TL P n σ R ops Q l ((d, v) :: s) L) : TL P n σ R ops Q l s L := fun a w ha hw => h' a w (ha.sub (Sub.cons h (fun _ _ h => h))) hw
theorem TC.slot {c : Code} {d : Nat} {v : Value} (h : lk s d = some v) (h' : TC P n σ R c Q ((d, v) :: s) L) : TC P n σ R c Q s L := fun a w ha hw => h' a w (ha.sub (Sub.cons h (fun _ _ h => h))) hw

/-- code up to a point, and what follows it once -/
theorem TC.mid {X : Type} {c : Code} (sI : X → Slots) (LI : X → List Assn) (h : TC P n σ R c (Exit.then (fun a w => ∃ x, Sl n (sI x) a ∧ Own σ (LI x) R w) Q) s L)
    (h' : ∀ x, TQ n σ R Q .normal (sI x) (LI x)) : TC P n σ R c Q s L := fun a w ha hw =>
  wp_mono (h a w ha hw) (fun e a w hq => by
    cases e with
    | normal => obtain ⟨x, h1, h2⟩ := hq; exact h' x a w h1 h2
    | _ => exact hq)
theorem TQ.mid {X : Type} {sI : X → Slots} {LI : X → List Assn} (y : X) (hs : Sub s (sI y)) (hL : Ent L (LI y)) : TQ n σ R (Exit.then (fun a w => ∃ x, Sl n (sI x) a ∧ Own σ (LI x) R w) Q) .normal s L :=
  fun a w ha hw => ⟨y, ha.sub hs, hL _ _ _ hw⟩

/-- the items are opened -/
theorem TC.ex {α : Type} {A : α → Assn} {c : Code} (ht : Take L (.ex A) L') (h : ∀ x, TC P n σ R c Q s (A x :: L')) : TC P n σ R c Q s L := fun a w ha hw => by
  obtain ⟨he, F, hF⟩ := hw
  obtain ⟨F1, F2, h1, h2, hd, rfl⟩ := Assn.sep_assoc (Assn.sep_mono (fun F h => ht.all h) (fun F h => h) hF)
  obtain ⟨x, hx⟩ := h1
  exact h x a w ha ⟨he, _, Assn.sep_assoc' ⟨F1, F2, hx, h2, hd, rfl⟩⟩
theorem TC.fact {φ : Prop} {c : Code} (ht : Take L (.fact φ) L') (h : φ → TC P n σ R c Q s L') : TC P n σ R c Q s L := fun a w ha hw => by
  obtain ⟨he, F, hF⟩ := hw
  obtain ⟨F1, F2, h1, h2, hd, rfl⟩ := Assn.sep_assoc (Assn.sep_mono (fun F h => ht.all h) (fun F h => h) hF)
  obtain ⟨hφ, rfl⟩ := h1
  refine h hφ a w ha ⟨he, F2, h2⟩
theorem TC.allL {M : List Assn} {c : Code} (ht : Take L (.all M) L') (h : TC P n σ R c Q s (M ++ L')) : TC P n σ R c Q s L := fun a w ha hw => by
  obtain ⟨he, F, hF⟩ := hw
  have h1 := Assn.sep_assoc (Assn.sep_mono (fun F h => ht.all h) (fun F h => h) hF)
  exact h a w ha ⟨he, F, Assn.sep_mono (fun F h => Assn.all_append h) (fun F h => h) (Assn.sep_assoc' h1)⟩
theorem TC.of_TL {id : Nat} {l : List Oper} (h : TL P n σ R l.toArray Q l s L) : TC P n σ R (.region id l.toArray false) Q s L := TC.region h

theorem TL.exL {α : Type} {A : α → Assn} (ht : Take L (.ex A) L') (h : ∀ x, TL P n σ R ops Q l s (A x :: L')) : TL P n σ R ops Q l s L := fun a w ha hw => by
  obtain ⟨he, F, hF⟩ := hw
  obtain ⟨F1, F2, h1, h2, hd, rfl⟩ := Assn.sep_assoc (Assn.sep_mono (fun F h => ht.all h) (fun F h => h) hF)
  obtain ⟨x, hx⟩ := h1
  exact h x a w ha ⟨he, _, Assn.sep_assoc' ⟨F1, F2, hx, h2, hd, rfl⟩⟩
theorem TL.factL {φ : Prop} (ht : Take L (.fact φ) L') (h : φ → TL P n σ R ops Q l s L') : TL P n σ R ops Q l s L := fun a w ha hw => by
  obtain ⟨he, F, hF⟩ := hw
  obtain ⟨F1, F2, h1, h2, hd, rfl⟩ := Assn.sep_assoc (Assn.sep_mono (fun F h => ht.all h) (fun F h => h) hF)
  obtain ⟨hφ, rfl⟩ := h1
  exact h hφ a w ha ⟨he, F2, h2⟩
theorem TL.allL {M : List Assn} (ht : Take L (.all M) L') (h : TL P n σ R ops Q l s (M ++ L')) : TL P n σ R ops Q l s L := fun a w ha hw => by
  obtain ⟨he, F, hF⟩ := hw
  have h1 := Assn.sep_assoc (Assn.sep_mono (fun F h => ht.all h) (fun F h => h) hF)
  exact h a w ha ⟨he, F, Assn.sep_mono (fun F h => Assn.all_append h) (fun F h => h) (Assn.sep_assoc' h1)⟩

/-! entailments -/
theorem Ent.exR {α : Type} {A : α → Assn} {L : List Assn} (x : α) : Ent (A x :: L) (.ex A :: L) := fun _ _ w ⟨he, F, hF⟩ =>
  ⟨he, F, Assn.sep_mono (fun _ h => Assn.sep_mono (A' := .ex A) (fun F h => (show (Assn.ex A).p w F from ⟨x, h⟩)) (fun _ h => h) h) (fun _ h => h) hF⟩
theorem Ent.exLR {α : Type} {A : α → Assn} {L M : List Assn} (h : ∀ x, Ent (A x :: L) M) : Ent (.ex A :: L) M := fun σ R w ⟨he, F, hF⟩ => by
  obtain ⟨F1, F2, h1, h2, hd, rfl⟩ := Assn.sep_assoc hF
  obtain ⟨x, hx⟩ := h1
  exact h x σ R w ⟨he, _, Assn.sep_assoc' ⟨F1, F2, hx, h2, hd, rfl⟩⟩
theorem Ent.factR {φ : Prop} {L : List Assn} (h : φ) : Ent L (.fact φ :: L) := fun _ _ _ ⟨he, F, hF⟩ =>
  ⟨he, F, Assn.sep_assoc' ⟨fun _ => False, F, ⟨h, rfl⟩, hF, fun _ h => h.elim, by funext b; simp⟩⟩
theorem Ent.factLR {φ : Prop} {L M : List Assn} (h : φ → Ent L M) : Ent (.fact φ :: L) M := fun σ R w ⟨he, F, hF⟩ => by
  obtain ⟨F1, F2, ⟨hφ, rfl⟩, h2, _, rfl⟩ := Assn.sep_assoc hF
  exact h hφ σ R w ⟨he, _, by simpa using h2⟩
theorem Ent.allR {M L : List Assn} : Ent (M ++ L) (.all M :: L) := fun _ _ _ ⟨he, F, hF⟩ =>
  ⟨he, F, Assn.sep_mono (fun _ h => Assn.append_all h) (fun _ h => h) hF⟩
theorem Ent.allLR {M L : List Assn} : Ent (.all M :: L) (M ++ L) := fun _ _ _ ⟨he, F, hF⟩ =>
  ⟨he, F, Assn.sep_mono (fun _ h => Assn.all_append h) (fun _ h => h) hF⟩
theorem Ent.sepR {A B : Assn} {L : List Assn} : Ent (A :: B :: L) (.sep A B :: L) := fun _ _ _ ⟨he, F, hF⟩ =>
  ⟨he, F, Assn.sep_mono (fun _ h => Assn.sep_assoc' h) (fun _ h => h) hF⟩
theorem Ent.sepLR {A B : Assn} {L : List Assn} : Ent (.sep A B :: L) (A :: B :: L) := fun _ _ _ ⟨he, F, hF⟩ =>
  ⟨he, F, Assn.sep_mono (fun _ h => Assn.sep_assoc h) (fun _ h => h) hF⟩
theorem Ent.empR {L : List Assn} : Ent L (.emp :: L) := fun _ _ _ ⟨he, F, hF⟩ =>
  ⟨he, F, Assn.sep_assoc' ⟨fun _ => False, F, rfl, hF, fun _ h => h.elim, by funext b; simp⟩⟩
theorem Assn.swap1 {A B C : Assn} {w : World} {F : Nat → Prop} (h : ((A.sep B).sep C).p w F) : (B.sep (A.sep C)).p w F :=
  Assn.sep_assoc (Assn.sep_mono (fun _ h => Assn.sep_comm h) (fun _ h => h) h)
theorem Assn.swap2 {A B C : Assn} {w : World} {F : Nat → Prop} (h : (B.sep (A.sep C)).p w F) : ((A.sep B).sep C).p w F :=
  Assn.sep_mono (fun _ h => Assn.sep_comm h) (fun _ h => h) (Assn.sep_assoc' h)
theorem Ent.cons {A : Assn} {L M : List Assn} (h : Ent L M) : Ent (A :: L) (A :: M) := fun σ R w ⟨he, F, hF⟩ => by
  obtain ⟨he', F', hF'⟩ := h σ (A.sep R) w ⟨he, F, Assn.swap1 hF⟩
  exact ⟨he', F', Assn.swap2 hF'⟩
theorem Ent.perm {L M rest : List Assn} (h : Pick L M rest) : Ent L (M ++ rest) := fun _ _ _ hw => (hw.focus h).unfocus

/-! a contract's items opened -/
theorem Spec.ent {f : FuncId} {args : Array Value} {pre pre' : List Assn} {X : Type} {q : X → Prop} {ret : X → Value} {post : X → List Assn} (hL : Ent pre pre') (h : Spec P f args pre' q ret post) : Spec P f args pre q ret post :=
  fun σ R w hw => h σ R w (hL _ _ _ hw)
theorem Spec.post {f : FuncId} {args : Array Value} {pre : List Assn} {X : Type} {q : X → Prop} {ret : X → Value} {post post' : X → List Assn} (h : Spec P f args pre q ret post) (hL : ∀ x, q x → Ent (post x) (post' x)) : Spec P f args pre q ret post' :=
  fun σ R w hw => (h σ R w hw).mono fun _ _ ⟨x, h1, h2, h3⟩ => ⟨x, h1, h2, hL x h2 _ _ _ h3⟩
theorem Spec.exL {f : FuncId} {args : Array Value} {α : Type} {A : α → Assn} {pre : List Assn} {X : Type} {q : X → Prop} {ret : X → Value} {post : X → List Assn} (h : ∀ x, Spec P f args (A x :: pre) q ret post) : Spec P f args (.ex A :: pre) q ret post :=
  fun σ R w ⟨he, F, hF⟩ => by
    obtain ⟨F1, F2, h1, h2, hd, rfl⟩ := Assn.sep_assoc hF
    obtain ⟨x, hx⟩ := h1
    exact h x σ R w ⟨he, _, Assn.sep_assoc' ⟨F1, F2, hx, h2, hd, rfl⟩⟩
theorem Spec.factL {f : FuncId} {args : Array Value} {φ : Prop} {pre : List Assn} {X : Type} {q : X → Prop} {ret : X → Value} {post : X → List Assn} (h : φ → Spec P f args pre q ret post) : Spec P f args (.fact φ :: pre) q ret post :=
  fun σ R w ⟨he, F, hF⟩ => by
    obtain ⟨F1, F2, ⟨hφ, rfl⟩, h2, _, rfl⟩ := Assn.sep_assoc hF
    exact h hφ σ R w ⟨he, _, by simpa using h2⟩
theorem Spec.allL {f : FuncId} {args : Array Value} {M pre : List Assn} {X : Type} {q : X → Prop} {ret : X → Value} {post : X → List Assn} (h : Spec P f args (M ++ pre) q ret post) : Spec P f args (.all M :: pre) q ret post :=
  Spec.ent Ent.allLR h

/-! ### regions that draw their order -/
/-- an order in which the operations may be taken: 'q i': number i yields its value in every world with the facts; 'e i': number i is the one that may come up; 'b ..': whichever of these comes up -/
inductive Sch where
  | done
  | q (i : Nat) (r : Sch)
  | e (i : Nat) (r : Sch)
  | b (i : Nat) (r : Sch) (j : Nat) (r' : Sch)

def Sch.ok (ops : Array Oper) : Sch → Array Bool → Bool
  | .done, listed => (Region.ready .any ops listed).isEmpty
  | .q i r, listed => (Region.ready .any ops listed).contains i && Region.free .any ops listed i && r.ok ops (listed.setIfInBounds i true)
  | .e i r, listed => (Region.ready .any ops listed) == [i] && r.ok ops (listed.setIfInBounds i true)
  | .b i r j r', listed => (Region.ready .any ops listed) == [i, j] && r.ok ops (listed.setIfInBounds i true) && r'.ok ops (listed.setIfInBounds j true)

def Sch.len : Sch → Nat
  | .done => 0
  | .q _ r => r.len + 1
  | .e _ r => r.len + 1
  | .b _ r _ r' => max r.len r'.len + 1

variable (P n σ R) in
/-- a drawing region in the midst -/
def TS (H : List Assn) (ops : Array Oper) (Q : Exit → Act → World → Prop) (t : Sch) (s : Slots) (L : List Assn) : Prop :=
  ∀ listed fuel, t.ok ops listed = true → Region.noSelect ops = true → t.len ≤ fuel → ∀ a w, Sl n s a → Own σ L R w → Facts H w → wpAnyH P .any ops (NoPanic Q) (Facts H) fuel listed a w

theorem TC.draw {id : Nat} {l : List Oper} {H rest : List Assn} (t : Sch) (hm : P.follows .mixedOrders = true) (hp : Pick L H rest) (ht : t.ok l.toArray (Array.replicate l.length false) = true) (hs : Region.noSelect l.toArray = true)
    (hl : Nat.ble t.len l.length = true) (h : TS P n σ R H l.toArray Q t s L) : TC P n σ R (.region id l.toArray true) Q s L := fun a w ha hw =>
  wp_region_noPanic (wp_region_held hm (S := Facts H) (by
    have := h (Array.replicate l.length false) l.length ht hs (Nat.le_of_ble_eq_true hl) a { w with drawn := w.drawn + 1 } ha (hw.drew _) ((hw.facts.pick hp).drew _)
    simpa using this))

theorem TS.done {H : List Assn} (h : TQ n σ R Q .normal s L) : TS P n σ R H ops Q .done s L := fun listed fuel hk _ _ a w ha hw _ =>
  wpAnyH_done (by simpa [Sch.ok] using hk) (show NoPanic Q .normal a w from h a w ha hw) fuel

theorem TS.val {H : List Assn} {i d ty : Nat} {op : Op} {pos : String} {af : Array Edge} {v : Value} {t : Sch} (ho : ops[i]? = some ⟨some d, op, ty, pos, af, none⟩) (hv : Val P H s op v) (hn : Nat.blt d n = true)
    (h : TS P n σ R H ops Q t ((d, v) :: s) L) : TS P n σ R H ops Q (.q i t) s L := fun listed fuel hk hs hl a w ha hw hf => by
  simp only [Sch.ok, Bool.and_eq_true] at hk
  obtain ⟨fuel, rfl⟩ : ∃ k, fuel = k + 1 := ⟨fuel - 1, by simp [Sch.len] at hl; omega⟩
  exact wpAnyH_take ho hs hk.1.2 hk.1.1 (fun _ _ _ h => h) (.inl ⟨rfl, fun w' hw' => hv n a w' ha hw' _ rfl⟩) hf
    (h _ fuel hk.2 hs (by simp [Sch.len] at hl; omega) _ w (ha.put v hn) hw hf)
theorem TS.want {H : List Assn} {i d ty j dj : Nat} {op : Op} {pos : String} {af : Array Edge} {b : Bool} {v : Value} {t : Sch} (ho : ops[i]? = some ⟨some d, op, ty, pos, af, some (j, b)⟩) (hj : (ops[j]?).bind (·.dst) = some dj)
    (hb : lk s dj = some (.bool b)) (hv : Val P H s op v) (hn : Nat.blt d n = true)
    (h : TS P n σ R H ops Q t ((d, v) :: s) L) : TS P n σ R H ops Q (.q i t) s L := fun listed fuel hk hs hl a w ha hw hf => by
  simp only [Sch.ok, Bool.and_eq_true] at hk
  obtain ⟨fuel, rfl⟩ : ∃ k, fuel = k + 1 := ⟨fuel - 1, by simp [Sch.len] at hl; omega⟩
  have hw0 : Region.wanted ⟨some d, op, ty, pos, af, some (j, b)⟩ (yielded ops a.tmps) = true := by
    unfold Region.wanted; simp only [ha.yielded hj hb]; cases b <;> rfl
  exact wpAnyH_take ho hs hk.1.2 hk.1.1 (fun _ _ _ h => h) (.inl ⟨hw0, fun w' hw' => hv n a w' ha hw' _ rfl⟩) hf
    (h _ fuel hk.2 hs (by simp [Sch.len] at hl; omega) _ w (ha.put v hn) hw hf)
theorem TS.skip {H : List Assn} {i d ty j dj : Nat} {op : Op} {pos : String} {af : Array Edge} {b : Bool} {t : Sch} (ho : ops[i]? = some ⟨some d, op, ty, pos, af, some (j, b)⟩) (hj : (ops[j]?).bind (·.dst) = some dj)
    (hb : lk s dj = some (.bool (!b))) (hn : Nat.blt d n = true)
    (h : TS P n σ R H ops Q t ((d, undef) :: s) L) : TS P n σ R H ops Q (.q i t) s L := fun listed fuel hk hs hl a w ha hw hf => by
  simp only [Sch.ok, Bool.and_eq_true] at hk
  obtain ⟨fuel, rfl⟩ : ∃ k, fuel = k + 1 := ⟨fuel - 1, by simp [Sch.len] at hl; omega⟩
  have hw0 : Region.wanted ⟨some d, op, ty, pos, af, some (j, b)⟩ (yielded ops a.tmps) = false := by
    unfold Region.wanted; simp only [ha.yielded hj hb]; cases b <;> rfl
  exact wpAnyH_take ho hs hk.1.2 hk.1.1 (fun _ _ _ h => h) (.inr ⟨hw0, rfl⟩) hf
    (h _ fuel hk.2 hs (by simp [Sch.len] at hl; omega) _ w (ha.put undef hn) hw hf)
theorem TS.skip_undef {H : List Assn} {i d ty j dj : Nat} {op : Op} {pos : String} {af : Array Edge} {b : Bool} {t : Sch} (ho : ops[i]? = some ⟨some d, op, ty, pos, af, some (j, b)⟩) (hj : (ops[j]?).bind (·.dst) = some dj)
    (hb : lk s dj = some undef) (hn : Nat.blt d n = true)
    (h : TS P n σ R H ops Q t ((d, undef) :: s) L) : TS P n σ R H ops Q (.q i t) s L := fun listed fuel hk hs hl a w ha hw hf => by
  simp only [Sch.ok, Bool.and_eq_true] at hk
  obtain ⟨fuel, rfl⟩ : ∃ k, fuel = k + 1 := ⟨fuel - 1, by simp [Sch.len] at hl; omega⟩
  have hw0 : Region.wanted ⟨some d, op, ty, pos, af, some (j, b)⟩ (yielded ops a.tmps) = false := by
    unfold Region.wanted; simp only [ha.yielded_undef hj hb]; cases b <;> rfl
  exact wpAnyH_take ho hs hk.1.2 hk.1.1 (fun _ _ _ h => h) (.inr ⟨hw0, rfl⟩) hf
    (h _ fuel hk.2 hs (by simp [Sch.len] at hl; omega) _ w (ha.put undef hn) hw hf)
theorem TS.part {H : List Assn} {dj : Nat} {b : Bool} {t : Sch} (hv : lk s dj = some (.bool b))
    (ht : b = true → TS P n σ R H ops Q t ((dj, .bool true) :: s) L) (hf : b = false → TS P n σ R H ops Q t ((dj, .bool false) :: s) L) : TS P n σ R H ops Q t s L := fun listed fuel hk hs hl a w ha hw hfa => by
  cases b with
  | true => exact ht rfl listed fuel hk hs hl a w (ha.sub (Sub.cons hv (fun _ _ h => h))) hw hfa
  | false => exact hf rfl listed fuel hk hs hl a w (ha.sub (Sub.cons hv (fun _ _ h => h))) hw hfa
theorem TS.part_dec {H : List Assn} {dj : Nat} {q : Prop} [Decidable q] {t : Sch} (hv : lk s dj = some (.bool (decide q)))
    (ht : q → TS P n σ R H ops Q t ((dj, .bool true) :: s) L) (hf : ¬ q → TS P n σ R H ops Q t ((dj, .bool false) :: s) L) : TS P n σ R H ops Q t s L :=
  TS.part hv (fun h => ht (of_decide_eq_true h)) (fun h => hf (of_decide_eq_false h))

/-- what stands behind one operation of a drawing region -/
def Back (P : Program) (H : List Assn) (ops : Array Oper) (Q : Exit → Act → World → Prop) (fuel : Nat) (listed : Array Bool) : Exit → Act → World → Prop
  | .normal, a, w => Facts H w ∧ wpAnyH P .any ops (NoPanic Q) (Facts H) fuel listed a w
  | e, a, w => NoPanic Q e a w

theorem wpOp_of_list {i : Nat} {o : Oper} {H : List Assn} {fuel : Nat} {listed : Array Bool} {a : Act} {w : World} (ho : ops[i]? = some o)
    (h : wpList P ops (Back P H ops Q fuel listed) [o] a w) : wpOp P ops (NoPanic Q) i (fun a' w' => Facts H w' ∧ wpAnyH P .any ops (NoPanic Q) (Facts H) fuel listed a' w') a w := by
  unfold wpOp; simp only [ho]
  unfold wpList at h
  split
  · rename_i hw
    rw [if_pos hw] at h
    rcases h with h | ⟨h1, h2⟩
    · left
      unfold Oper.wp at *
      generalize (execOp a.eval o).run P w = r at *
      cases r with
      | ok x w' =>
        cases x <;> simp only [Oper.upon] at h ⊢ <;> exact h
      | halt x w' => cases x <;> simp only [Oper.upon] at h ⊢ <;> exact h
    · exact .inr ⟨h1, h2⟩
  · rename_i hw
    rw [if_neg hw] at h
    exact h

theorem TS.eff {H : List Assn} {i : Nat} {o : Oper} {t : Sch} (ho : ops[i]? = some o)
    (h : ∀ fuel listed, t.ok ops listed = true → Region.noSelect ops = true → t.len ≤ fuel → TL P n σ R ops (Back P H ops Q fuel listed) [o] s L) : TS P n σ R H ops Q (.e i t) s L := fun listed fuel hk hs hl a w ha hw _ => by
  simp only [Sch.ok, Bool.and_eq_true, beq_iff_eq] at hk
  obtain ⟨fuel, rfl⟩ : ∃ k, fuel = k + 1 := ⟨fuel - 1, by simp [Sch.len] at hl; omega⟩
  refine wpAnyH_all hk.1 (by simp) fun j hj => ?_
  simp only [List.mem_singleton] at hj
  subst hj
  exact wpOp_of_list ho (h fuel _ hk.2 hs (by simp [Sch.len] at hl; omega) a w ha hw)
theorem TS.both {H : List Assn} {i j : Nat} {o o' : Oper} {t t' : Sch} (ho : ops[i]? = some o) (ho' : ops[j]? = some o')
    (h : ∀ fuel listed, t.ok ops listed = true → Region.noSelect ops = true → t.len ≤ fuel → TL P n σ R ops (Back P H ops Q fuel listed) [o] s L)
    (h' : ∀ fuel listed, t'.ok ops listed = true → Region.noSelect ops = true → t'.len ≤ fuel → TL P n σ R ops (Back P H ops Q fuel listed) [o'] s L) : TS P n σ R H ops Q (.b i t j t') s L := fun listed fuel hk hs hl a w ha hw _ => by
  simp only [Sch.ok, Bool.and_eq_true, beq_iff_eq] at hk
  obtain ⟨fuel, rfl⟩ : ∃ k, fuel = k + 1 := ⟨fuel - 1, by simp [Sch.len] at hl; omega⟩
  refine wpAnyH_all hk.1.1 (by simp) fun k hk' => ?_
  simp only [List.mem_cons, List.not_mem_nil, or_false] at hk'
  rcases hk' with rfl | rfl
  · exact wpOp_of_list ho (h fuel _ hk.1.2 hs (by simp [Sch.len] at hl; omega) a w ha hw)
  · exact wpOp_of_list ho' (h' fuel _ hk.2 hs (by simp [Sch.len] at hl; omega) a w ha hw)
/-- back into the region -/
theorem TS.back {H rest : List Assn} {fuel : Nat} {listed : Array Bool} {t : Sch} (hk : t.ok ops listed = true) (hs : Region.noSelect ops = true) (hl : t.len ≤ fuel) (hp : Pick L H rest) (h : TS P n σ R H ops Q t s L) :
    TQ n σ R (Back P H ops Q fuel listed) .normal s L := fun a w ha hw => ⟨hw.facts.pick hp, h listed fuel hk hs hl a w ha hw (hw.facts.pick hp)⟩
end
end Go.Wd
