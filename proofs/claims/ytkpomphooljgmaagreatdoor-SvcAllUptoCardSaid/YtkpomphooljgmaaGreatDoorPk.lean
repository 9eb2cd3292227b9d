/- PROVED HERE: the searches among the items, by short names. No condition beyond each theorem's own. -/
import Derived.Test.YtkpomphooljgmaaGreatDoorBase5
namespace Go.Wd
open Go
theorem Take.tk {L L' : List Assn} {A : Assn} (h : Take L A L' := by repeat first | exact .here | apply Take.there) : Take L A L' := h
theorem Upd.up {L L' : List Assn} {A B : Assn} (h : Upd L A B L' := by repeat first | exact .here | apply Upd.there) : Upd L A B L' := h
theorem Pick.pk {L M rest : List Assn} (h : Pick L M rest := by repeat first | exact .nil | (apply Pick.cons; focus (repeat first | exact .here | apply Take.there))) : Pick L M rest := h
theorem Ent.en {L M rest : List Assn} (h : Pick L M rest := by repeat first | exact .nil | (apply Pick.cons; focus (repeat first | exact .here | apply Take.there))) : Ent L M := Ent.pick h
theorem Sub.st {s t : Slots} (h : Sub s t := by repeat first | exact Sub.nil | refine Sub.cons rfl ?_) : Sub s t := h
section
variable {P : Program} {n : Nat} {σ : Env} {R : Assn} {Q : Exit → Act → World → Prop} {s : Slots} {L : List Assn} {ops : Array Oper}
theorem TL.v {l : List Oper} {d ty : Nat} {op : Op} {pos : String} {af : Array Edge} {v : Value} (hv : Val P L s op v)
    (h : TL P n σ R ops Q l ((d, v) :: s) L) (hn : Nat.blt d n = true := by rfl) : TL P n σ R ops Q (⟨some d, op, ty, pos, af, none⟩ :: l) s L := TL.val hv hn h
theorem TS.v {H : List Assn} {i d ty : Nat} {op : Op} {pos : String} {af : Array Edge} {v : Value} {t : Sch} (ho : ops[i]? = some ⟨some d, op, ty, pos, af, none⟩) (hv : Val P H s op v)
    (h : TS P n σ R H ops Q t ((d, v) :: s) L) (hn : Nat.blt d n = true := by rfl) : TS P n σ R H ops Q (.q i t) s L := TS.val ho hv hn h
end
end Go.Wd
