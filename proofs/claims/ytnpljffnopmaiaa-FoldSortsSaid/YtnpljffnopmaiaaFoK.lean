import Derived.Test.YtnpljffnopmaiaaFoW
import Derived.Test.YtnpljffnopmaiaaProg
import Derived.Test.YtnpljffnopmaiaaFoP
import Derived.Test.YtnpljffnopmaiaaPY
/-
  THE LINK: each of the program's functions is the one that the abstract interpreter runs.
-/
set_option linter.all false
namespace Go.Pi
open Go.Proofs
set_option linter.unusedVariables false
set_option maxRecDepth 100000
def fiL : List (Option Nat) := [none, none, none, some 0, some 1, some 2, some 3, some 4, some 5, some 6, some 7, some 8, some 9, some 10, some 11, some 12, some 13, some 14, some 15, some 16, some 17, some 18, some 19, some 20, some 21, some 22, some 23, some 24, some 25, some 26, some 27, some 28, some 29, some 30, some 31, some 32, some 33, some 34, some 35, some 36, some 37]
def fmL : List Nat := [3, 4, 5, 6, 7, 8, 9, 10, 11, 12, 13, 14, 15, 16, 17, 18, 19, 20, 21, 22, 23, 24, 25, 26, 27, 28, 29, 30, 31, 32, 33, 34, 35, 36, 37, 38, 39, 40]
def heapyL : List Nat := [25, 30, 33, 34, 36, 37]
def modesL : List (Nat × List Nat) := []
def extL : List (Nat × Bool) := [(31, false), (32, true)]
def fnsL : List Nat := [11, 26]
def fmS (n : Nat) : Nat := fmL.getD n 0
def cfgS : Cfg := ⟨fun n => (fiL[n]?).join, fmS, fun n => heapyL.contains n, fun n => (modesL.lookup n).getD [], fun n => extL.lookup n, fnsL⟩
def orcF : Nat → Option (List D → Option D)
  | _ => none
noncomputable def prog0 : Prog := fun f => match orcF f with
  | some g => some ⟨0, [], .skip, some g⟩
  | none => (Try.prog.funcs[fmS f]?).bind (trF Try.prog cfgS)
def LinkR (k : Nat) (f : PF) : Prop := (prog0 k).map undrawF = some f
theorem link1 : LinkR 1 pf1 := by
  have h : (trF Try.prog cfgS Try.f4).map undrawF = some pf1 := by kernel_rfl
  unfold LinkR prog0
  rw [show orcF 1 = none from rfl]
  show ((Try.prog.funcs[fmS 1]?).bind (trF Try.prog cfgS)).map undrawF = some pf1
  rw [show fmS 1 = 4 from rfl, Try.func4]
  exact h
theorem link6 : LinkR 6 pf6 := by
  have h : (trF Try.prog cfgS Try.f9).map undrawF = some pf6 := by kernel_rfl
  unfold LinkR prog0
  rw [show orcF 6 = none from rfl]
  show ((Try.prog.funcs[fmS 6]?).bind (trF Try.prog cfgS)).map undrawF = some pf6
  rw [show fmS 6 = 9 from rfl, Try.func9]
  exact h
theorem link7 : LinkR 7 pf7 := by
  have h : (trF Try.prog cfgS Try.f10).map undrawF = some pf7 := by kernel_rfl
  unfold LinkR prog0
  rw [show orcF 7 = none from rfl]
  show ((Try.prog.funcs[fmS 7]?).bind (trF Try.prog cfgS)).map undrawF = some pf7
  rw [show fmS 7 = 10 from rfl, Try.func10]
  exact h
theorem link8 : LinkR 8 pf8 := by
  have h : (trF Try.prog cfgS Try.f11).map undrawF = some pf8 := by kernel_rfl
  unfold LinkR prog0
  rw [show orcF 8 = none from rfl]
  show ((Try.prog.funcs[fmS 8]?).bind (trF Try.prog cfgS)).map undrawF = some pf8
  rw [show fmS 8 = 11 from rfl, Try.func11]
  exact h
theorem link11 : LinkR 11 pf11 := by
  have h : (trF Try.prog cfgS Try.f14).map undrawF = some pf11 := by kernel_rfl
  unfold LinkR prog0
  rw [show orcF 11 = none from rfl]
  show ((Try.prog.funcs[fmS 11]?).bind (trF Try.prog cfgS)).map undrawF = some pf11
  rw [show fmS 11 = 14 from rfl, Try.func14]
  exact h
theorem link12 : LinkR 12 pf12 := by
  have h : (trF Try.prog cfgS Try.f15).map undrawF = some pf12 := by kernel_rfl
  unfold LinkR prog0
  rw [show orcF 12 = none from rfl]
  show ((Try.prog.funcs[fmS 12]?).bind (trF Try.prog cfgS)).map undrawF = some pf12
  rw [show fmS 12 = 15 from rfl, Try.func15]
  exact h
theorem link14 : LinkR 14 pf14 := by
  have h : (trF Try.prog cfgS Try.f17).map undrawF = some pf14 := by kernel_rfl
  unfold LinkR prog0
  rw [show orcF 14 = none from rfl]
  show ((Try.prog.funcs[fmS 14]?).bind (trF Try.prog cfgS)).map undrawF = some pf14
  rw [show fmS 14 = 17 from rfl, Try.func17]
  exact h
theorem link16 : LinkR 16 pf16 := by
  have h : (trF Try.prog cfgS Try.f19).map undrawF = some pf16 := by kernel_rfl
  unfold LinkR prog0
  rw [show orcF 16 = none from rfl]
  show ((Try.prog.funcs[fmS 16]?).bind (trF Try.prog cfgS)).map undrawF = some pf16
  rw [show fmS 16 = 19 from rfl, Try.func19]
  exact h
theorem link17 : LinkR 17 pf17 := by
  have h : (trF Try.prog cfgS Try.f20).map undrawF = some pf17 := by kernel_rfl
  unfold LinkR prog0
  rw [show orcF 17 = none from rfl]
  show ((Try.prog.funcs[fmS 17]?).bind (trF Try.prog cfgS)).map undrawF = some pf17
  rw [show fmS 17 = 20 from rfl, Try.func20]
  exact h
theorem link19 : LinkR 19 pf19 := by
  have h : (trF Try.prog cfgS Try.f22).map undrawF = some pf19 := by kernel_rfl
  unfold LinkR prog0
  rw [show orcF 19 = none from rfl]
  show ((Try.prog.funcs[fmS 19]?).bind (trF Try.prog cfgS)).map undrawF = some pf19
  rw [show fmS 19 = 22 from rfl, Try.func22]
  exact h
theorem link23 : LinkR 23 pf23 := by
  have h : (trF Try.prog cfgS Try.f26).map undrawF = some pf23 := by kernel_rfl
  unfold LinkR prog0
  rw [show orcF 23 = none from rfl]
  show ((Try.prog.funcs[fmS 23]?).bind (trF Try.prog cfgS)).map undrawF = some pf23
  rw [show fmS 23 = 26 from rfl, Try.func26]
  exact h
theorem link24 : LinkR 24 pf24 := by
  have h : (trF Try.prog cfgS Try.f27).map undrawF = some pf24 := by kernel_rfl
  unfold LinkR prog0
  rw [show orcF 24 = none from rfl]
  show ((Try.prog.funcs[fmS 24]?).bind (trF Try.prog cfgS)).map undrawF = some pf24
  rw [show fmS 24 = 27 from rfl, Try.func27]
  exact h
theorem link25 : LinkR 25 pf25 := by
  have h : (trF Try.prog cfgS Try.f28).map undrawF = some pf25 := by kernel_rfl
  unfold LinkR prog0
  rw [show orcF 25 = none from rfl]
  show ((Try.prog.funcs[fmS 25]?).bind (trF Try.prog cfgS)).map undrawF = some pf25
  rw [show fmS 25 = 28 from rfl, Try.func28]
  exact h
theorem link26 : LinkR 26 pf26 := by
  have h : (trF Try.prog cfgS Try.f29).map undrawF = some pf26 := by kernel_rfl
  unfold LinkR prog0
  rw [show orcF 26 = none from rfl]
  show ((Try.prog.funcs[fmS 26]?).bind (trF Try.prog cfgS)).map undrawF = some pf26
  rw [show fmS 26 = 29 from rfl, Try.func29]
  exact h
theorem link27 : LinkR 27 pf27 := by
  have h : (trF Try.prog cfgS Try.f30).map undrawF = some pf27 := by kernel_rfl
  unfold LinkR prog0
  rw [show orcF 27 = none from rfl]
  show ((Try.prog.funcs[fmS 27]?).bind (trF Try.prog cfgS)).map undrawF = some pf27
  rw [show fmS 27 = 30 from rfl, Try.func30]
  exact h
theorem link30 : LinkR 30 pf30 := by
  have h : (trF Try.prog cfgS Try.f33).map undrawF = some pf30 := by kernel_rfl
  unfold LinkR prog0
  rw [show orcF 30 = none from rfl]
  show ((Try.prog.funcs[fmS 30]?).bind (trF Try.prog cfgS)).map undrawF = some pf30
  rw [show fmS 30 = 33 from rfl, Try.func33]
  exact h
theorem link31 : LinkR 31 pf31 := by
  have h : (trF Try.prog cfgS Try.f34).map undrawF = some pf31 := by kernel_rfl
  unfold LinkR prog0
  rw [show orcF 31 = none from rfl]
  show ((Try.prog.funcs[fmS 31]?).bind (trF Try.prog cfgS)).map undrawF = some pf31
  rw [show fmS 31 = 34 from rfl, Try.func34]
  exact h
theorem link32 : LinkR 32 pf32 := by
  have h : (trF Try.prog cfgS Try.f35).map undrawF = some pf32 := by kernel_rfl
  unfold LinkR prog0
  rw [show orcF 32 = none from rfl]
  show ((Try.prog.funcs[fmS 32]?).bind (trF Try.prog cfgS)).map undrawF = some pf32
  rw [show fmS 32 = 35 from rfl, Try.func35]
  exact h
theorem link33 : LinkR 33 pf33 := by
  have h : (trF Try.prog cfgS Try.f36).map undrawF = some pf33 := by kernel_rfl
  unfold LinkR prog0
  rw [show orcF 33 = none from rfl]
  show ((Try.prog.funcs[fmS 33]?).bind (trF Try.prog cfgS)).map undrawF = some pf33
  rw [show fmS 33 = 36 from rfl, Try.func36]
  exact h
theorem link34 : LinkR 34 pf34 := by
  have h : (trF Try.prog cfgS Try.f37).map undrawF = some pf34 := by kernel_rfl
  unfold LinkR prog0
  rw [show orcF 34 = none from rfl]
  show ((Try.prog.funcs[fmS 34]?).bind (trF Try.prog cfgS)).map undrawF = some pf34
  rw [show fmS 34 = 37 from rfl, Try.func37]
  exact h
theorem link35 : LinkR 35 pf35 := by
  have h : (trF Try.prog cfgS Try.f38).map undrawF = some pf35 := by kernel_rfl
  unfold LinkR prog0
  rw [show orcF 35 = none from rfl]
  show ((Try.prog.funcs[fmS 35]?).bind (trF Try.prog cfgS)).map undrawF = some pf35
  rw [show fmS 35 = 38 from rfl, Try.func38]
  exact h
theorem link36 : LinkR 36 pf36 := by
  have h : (trF Try.prog cfgS Try.f39).map undrawF = some pf36 := by kernel_rfl
  unfold LinkR prog0
  rw [show orcF 36 = none from rfl]
  show ((Try.prog.funcs[fmS 36]?).bind (trF Try.prog cfgS)).map undrawF = some pf36
  rw [show fmS 36 = 39 from rfl, Try.func39]
  exact h
theorem link37 : LinkR 37 pf37 := by
  have h : (trF Try.prog cfgS Try.f40).map undrawF = some pf37 := by kernel_rfl
  unfold LinkR prog0
  rw [show orcF 37 = none from rfl]
  show ((Try.prog.funcs[fmS 37]?).bind (trF Try.prog cfgS)).map undrawF = some pf37
  rw [show fmS 37 = 40 from rfl, Try.func40]
  exact h
theorem links : ptree.All LinkR := ⟨⟨⟨⟨link1, link6⟩, ⟨link7, ⟨link8, link11⟩⟩⟩, ⟨⟨link12, ⟨link14, link16⟩⟩, ⟨link17, ⟨link19, link23⟩⟩⟩⟩, ⟨⟨⟨link24, ⟨link25, link26⟩⟩, ⟨link27, ⟨link30, link31⟩⟩⟩, ⟨⟨link32, ⟨link33, link34⟩⟩, ⟨link35, ⟨link36, link37⟩⟩⟩⟩⟩
theorem linkU (f : Nat) (pf' : PF) (h : prog f = some pf') : ∃ pf, prog0 f = some pf ∧ pf' = undrawF pf := by
  have := PT.find_all links h
  obtain ⟨pf, h1, h2⟩ := Option.map_eq_some_iff.1 this
  exact ⟨pf, h1, h2.symm⟩
theorem hextS : ∀ f b, cfgS.ext f = some b → ExtOk Try.prog f b := by
  intro f b h
  simp only [cfgS, extL, List.lookup] at h
  split at h
  · rename_i e
    injection h with h
    subst h
    obtain rfl : f = 31 := by simpa using e
    simp only [ExtOk, if_true, Bool.false_eq_true, if_false]
    exact Go.Proofs.Ytnpljffnopmaiaa.frombits
  split at h
  · rename_i e
    injection h with h
    subst h
    obtain rfl : f = 32 := by simpa using e
    simp only [ExtOk, if_true, Bool.false_eq_true, if_false]
    exact Go.Proofs.Ytnpljffnopmaiaa.tobits
  cases h
theorem linked : Linked Try.prog fmS prog0 := by
  intro f pf h
  unfold prog0 at h
  split at h
  · rename_i g hg; cases hg
  · obtain ⟨fn, h1, h2⟩ := Option.bind_eq_some_iff.1 h
    exact .inl ⟨fn, h1, trF_ok hextS h2⟩
theorem mixed : Try.prog.follows .mixedOrders = true := by kernel_rfl
end Go.Pi

