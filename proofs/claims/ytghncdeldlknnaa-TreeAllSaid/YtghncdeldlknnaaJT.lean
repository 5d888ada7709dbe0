import Derived.Test.YtghncdeldlknnaaPiA
/-
  A program as a tree of functions.
-/
set_option linter.all false
namespace Go.Pi
inductive PT where
  | leaf (k : Nat) (f : PF)
  | node (k : Nat) (l r : PT)
def PT.find : PT → Nat → Option PF
  | .leaf k f, n => match Nat.beq n k with | true => some f | false => none
  | .node k l r, n => match Nat.blt n k with | true => l.find n | false => r.find n
def PT.All (R : Nat → PF → Prop) : PT → Prop
  | .leaf k f => R k f
  | .node _ l r => l.All R ∧ r.All R
theorem PT.find_all {R : Nat → PF → Prop} : ∀ {t : PT} {n : Nat} {f : PF}, t.All R → t.find n = some f → R n f
  | .leaf k g, n, f, h, hf => by
    simp only [PT.find] at hf
    split at hf
    · rename_i e
      injection hf with hf
      subst hf
      rw [Nat.eq_of_beq_eq_true e]
      exact h
    · cases hf
  | .node k l r, n, f, h, hf => by
    simp only [PT.find] at hf
    split at hf
    · exact PT.find_all h.1 hf
    · exact PT.find_all h.2 hf
end Go.Pi
