import Derived.Test.YthapdljociabjaaWW
import Derived.Test.YthapdljociabjaaProg
import Derived.Test.YthapdljociabjaaWeP
import Derived.Test.YthapdljociabjaaPY
/-
  THE LINK: each of the program's functions is the one that the abstract interpreter runs.
-/
set_option linter.all false
namespace Go.Pi
open Go.Proofs
set_option linter.unusedVariables false
set_option maxRecDepth 100000
def fiL : List (Option Nat) := [none, none, none, some 0, some 1, some 2, some 3, some 4, some 5, some 6, some 7, some 8, some 9, some 10, some 11, some 12, some 13, some 14, some 15, some 16, some 17, some 18, some 19, some 20, some 21, some 22, some 23, some 24, some 25, some 26, some 27, some 28, some 29, some 30, some 31, some 32, some 33, some 34, some 35]
def fmL : List Nat := [3, 4, 5, 6, 7, 8, 9, 10, 11, 12, 13, 14, 15, 16, 17, 18, 19, 20, 21, 22, 23, 24, 25, 26, 27, 28, 29, 30, 31, 32, 33, 34, 35, 36, 37, 38]
def heapyL : List Nat := []
def modesL : List (Nat × List Nat) := []
def extL : List (Nat × Bool) := [(27, false), (33, true)]
def fnsL : List Nat := [15]
def fmS (n : Nat) : Nat := fmL.getD n 0
def cfgS : Cfg := ⟨fun n => (fiL[n]?).join, fmS, fun n => heapyL.contains n, fun n => (modesL.lookup n).getD [], fun n => extL.lookup n, fnsL⟩
def orcF : Nat → Option (List D → Option D)
  | 10 => some parseG
  | _ => none
noncomputable def prog0 : Prog := fun f => match orcF f with
  | some g => some ⟨0, [], .skip, some g⟩
  | none => (Try.prog.funcs[fmS f]?).bind (trF Try.prog cfgS)
def LinkR (k : Nat) (f : PF) : Prop := (prog0 k).map undrawF = some f
theorem link4 : LinkR 4 pf4 := by
  have h : (trF Try.prog cfgS Try.f7).map undrawF = some pf4 := by kernel_rfl
  unfold LinkR prog0
  rw [show orcF 4 = none from rfl]
  show ((Try.prog.funcs[fmS 4]?).bind (trF Try.prog cfgS)).map undrawF = some pf4
  rw [show fmS 4 = 7 from rfl, Try.func7]
  exact h
theorem link9 : LinkR 9 pf9 := by
  have h : (trF Try.prog cfgS Try.f12).map undrawF = some pf9 := by kernel_rfl
  unfold LinkR prog0
  rw [show orcF 9 = none from rfl]
  show ((Try.prog.funcs[fmS 9]?).bind (trF Try.prog cfgS)).map undrawF = some pf9
  rw [show fmS 9 = 12 from rfl, Try.func12]
  exact h
theorem link10 : LinkR 10 pf10 := by
  unfold LinkR
  kernel_rfl
theorem link12 : LinkR 12 pf12 := by
  have h : (trF Try.prog cfgS Try.f15).map undrawF = some pf12 := by kernel_rfl
  unfold LinkR prog0
  rw [show orcF 12 = none from rfl]
  show ((Try.prog.funcs[fmS 12]?).bind (trF Try.prog cfgS)).map undrawF = some pf12
  rw [show fmS 12 = 15 from rfl, Try.func15]
  exact h
theorem link14 : LinkR 14 pf14 := by
  have h : (trF Try.prog cfgS Try.f17).map undrawF = some pf14 := by kernel_rfl
  unfold LinkR prog0
  rw [show orcF 14 = none from rfl]
  show ((Try.prog.funcs[fmS 14]?).bind (trF Try.prog cfgS)).map undrawF = some pf14
  rw [show fmS 14 = 17 from rfl, Try.func17]
  exact h
theorem link15 : LinkR 15 pf15 := by
  have h : (trF Try.prog cfgS Try.f18).map undrawF = some pf15 := by kernel_rfl
  unfold LinkR prog0
  rw [show orcF 15 = none from rfl]
  show ((Try.prog.funcs[fmS 15]?).bind (trF Try.prog cfgS)).map undrawF = some pf15
  rw [show fmS 15 = 18 from rfl, Try.func18]
  exact h
theorem link17 : LinkR 17 pf17 := by
  have h : (trF Try.prog cfgS Try.f20).map undrawF = some pf17 := by kernel_rfl
  unfold LinkR prog0
  rw [show orcF 17 = none from rfl]
  show ((Try.prog.funcs[fmS 17]?).bind (trF Try.prog cfgS)).map undrawF = some pf17
  rw [show fmS 17 = 20 from rfl, Try.func20]
  exact h
theorem link20 : LinkR 20 pf20 := by
  have h : (trF Try.prog cfgS Try.f23).map undrawF = some pf20 := by kernel_rfl
  unfold LinkR prog0
  rw [show orcF 20 = none from rfl]
  show ((Try.prog.funcs[fmS 20]?).bind (trF Try.prog cfgS)).map undrawF = some pf20
  rw [show fmS 20 = 23 from rfl, Try.func23]
  exact h
theorem link22 : LinkR 22 pf22 := by
  have h : (trF Try.prog cfgS Try.f25).map undrawF = some pf22 := by kernel_rfl
  unfold LinkR prog0
  rw [show orcF 22 = none from rfl]
  show ((Try.prog.funcs[fmS 22]?).bind (trF Try.prog cfgS)).map undrawF = some pf22
  rw [show fmS 22 = 25 from rfl, Try.func25]
  exact h
theorem link28 : LinkR 28 pf28 := by
  have h : (trF Try.prog cfgS Try.f31).map undrawF = some pf28 := by kernel_rfl
  unfold LinkR prog0
  rw [show orcF 28 = none from rfl]
  show ((Try.prog.funcs[fmS 28]?).bind (trF Try.prog cfgS)).map undrawF = some pf28
  rw [show fmS 28 = 31 from rfl, Try.func31]
  exact h
theorem link29 : LinkR 29 pf29 := by
  have h : (trF Try.prog cfgS Try.f32).map undrawF = some pf29 := by kernel_rfl
  unfold LinkR prog0
  rw [show orcF 29 = none from rfl]
  show ((Try.prog.funcs[fmS 29]?).bind (trF Try.prog cfgS)).map undrawF = some pf29
  rw [show fmS 29 = 32 from rfl, Try.func32]
  exact h
theorem link31 : LinkR 31 pf31 := by
  have h : (trF Try.prog cfgS Try.f34).map undrawF = some pf31 := by kernel_rfl
  unfold LinkR prog0
  rw [show orcF 31 = none from rfl]
  show ((Try.prog.funcs[fmS 31]?).bind (trF Try.prog cfgS)).map undrawF = some pf31
  rw [show fmS 31 = 34 from rfl, Try.func34]
  exact h
theorem link33 : LinkR 33 pf33 := by
  have h : (trF Try.prog cfgS Try.f36).map undrawF = some pf33 := by kernel_rfl
  unfold LinkR prog0
  rw [show orcF 33 = none from rfl]
  show ((Try.prog.funcs[fmS 33]?).bind (trF Try.prog cfgS)).map undrawF = some pf33
  rw [show fmS 33 = 36 from rfl, Try.func36]
  exact h
theorem link34 : LinkR 34 pf34 := by
  have h : (trF Try.prog cfgS Try.f37).map undrawF = some pf34 := by kernel_rfl
  unfold LinkR prog0
  rw [show orcF 34 = none from rfl]
  show ((Try.prog.funcs[fmS 34]?).bind (trF Try.prog cfgS)).map undrawF = some pf34
  rw [show fmS 34 = 37 from rfl, Try.func37]
  exact h
theorem links : ptree.All LinkR := ⟨⟨⟨link4, ⟨link9, link10⟩⟩, ⟨⟨link12, link14⟩, ⟨link15, link17⟩⟩⟩, ⟨⟨link20, ⟨link22, link28⟩⟩, ⟨⟨link29, link31⟩, ⟨link33, link34⟩⟩⟩⟩
theorem linkU (f : Nat) (pf' : PF) (h : prog f = some pf') : ∃ pf, prog0 f = some pf ∧ pf' = undrawF pf := by
  have := PT.find_all links h
  obtain ⟨pf, h1, h2⟩ := Option.map_eq_some_iff.1 this
  exact ⟨pf, h1, h2.symm⟩
theorem hextS : ∀ f b, cfgS.ext f = some b → ExtOk Try.prog f b := by
  intro f b h
  simp only [cfgS, extL, List.lookup] at h
  split at h
  · rename_i e
    injection h with h
    subst h
    obtain rfl : f = 27 := by simpa using e
    simp only [ExtOk, if_true, Bool.false_eq_true, if_false]
    exact Go.Proofs.Ythapdljociabjaa.frombits
  split at h
  · rename_i e
    injection h with h
    subst h
    obtain rfl : f = 33 := by simpa using e
    simp only [ExtOk, if_true, Bool.false_eq_true, if_false]
    exact Go.Proofs.Ythapdljociabjaa.tobits
  cases h
theorem linked : Linked Try.prog fmS prog0 := by
  intro f pf h
  unfold prog0 at h
  split at h
  · rename_i g hg
    injection h with h
    subst h
    refine .inr ⟨g, rfl, ?_⟩
    unfold orcF at hg
    split at hg
    · injection hg with hg
      subst hg
      exact Go.Proofs.Ythapdljociabjaa.parse_orc rfl
    · cases hg
  · obtain ⟨fn, h1, h2⟩ := Option.bind_eq_some_iff.1 h
    exact .inl ⟨fn, h1, trF_ok hextS h2⟩
theorem mixed : Try.prog.follows .mixedOrders = true := by kernel_rfl
end Go.Pi

