import Derived.Test.YtghncdeldlknnaaProg
import Derived.Test.YtghncdeldlknnaaTxP
import Derived.Test.YtghncdeldlknnaaPiZ
/-
  THE LINK: each of the program's functions is the one that the abstract interpreter runs.
-/
set_option linter.all false
namespace Go.Pi
open Go.Proofs
set_option linter.unusedVariables false
set_option maxRecDepth 100000
def fiL : List (Option Nat) := [none, none, none, some 107, some 122, some 123, some 124, some 125, some 126, some 108, some 109, some 110, some 111, some 112, some 6, some 113, some 114, some 127, some 128, some 58, some 129, some 130, some 131, some 132, some 133, some 134, some 135, some 136, some 137, some 138, some 81, some 83, some 97, some 115, some 116, some 117, some 118, some 119, some 139, some 140, some 82, some 141, some 142, some 98, some 143, some 120, some 121, some 144, some 145, some 146, some 147]
def fmL : List Nat := [0, 0, 0, 0, 0, 0, 14, 0, 0, 0, 0, 0, 0, 0, 0, 0, 0, 0, 0, 0, 0, 0, 0, 0, 0, 0, 0, 0, 0, 0, 0, 0, 0, 0, 0, 0, 0, 0, 0, 0, 0, 0, 0, 0, 0, 0, 0, 0, 0, 0, 0, 0, 0, 0, 0, 0, 0, 0, 19, 0, 0, 0, 0, 0, 0, 0, 0, 0, 0, 0, 0, 0, 0, 0, 0, 0, 0, 0, 0, 0, 0, 30, 40, 31, 0, 0, 0, 0, 0, 0, 0, 0, 0, 0, 0, 0, 0, 32, 43, 0, 0, 0, 0, 0, 0, 0, 0, 3, 9, 10, 11, 12, 13, 15, 16, 33, 34, 35, 36, 37, 45, 46, 4, 5, 6, 7, 8, 17, 18, 20, 21, 22, 23, 24, 25, 26, 27, 28, 29, 38, 39, 41, 42, 44, 47, 48, 49, 50]
def heapyL : List Nat := []
def modesL : List (Nat × List Nat) := []
def extL : List (Nat × Bool) := []
def fmS (n : Nat) : Nat := fmL.getD n 0
def cfgS : Cfg := ⟨fun n => (fiL[n]?).join, fmS, fun n => heapyL.contains n, fun n => (modesL.lookup n).getD [], fun n => extL.lookup n⟩
noncomputable def prog0 : Prog := fun f => (Try.prog.funcs[fmS f]?).bind (trF Try.prog cfgS)
def LinkR (k : Nat) (f : PF) : Prop := (prog0 k).map undrawF = some f
theorem link6 : LinkR 6 pf6 := by
  have h : (trF Try.prog cfgS Try.f14).map undrawF = some pf6 := by kernel_rfl
  unfold LinkR prog0
  rw [show fmS 6 = 14 from rfl, Try.func14]
  exact h
theorem link107 : LinkR 107 pf107 := by
  have h : (trF Try.prog cfgS Try.f3).map undrawF = some pf107 := by kernel_rfl
  unfold LinkR prog0
  rw [show fmS 107 = 3 from rfl, Try.func3]
  exact h
theorem link108 : LinkR 108 pf108 := by
  have h : (trF Try.prog cfgS Try.f9).map undrawF = some pf108 := by kernel_rfl
  unfold LinkR prog0
  rw [show fmS 108 = 9 from rfl, Try.func9]
  exact h
theorem link109 : LinkR 109 pf109 := by
  have h : (trF Try.prog cfgS Try.f10).map undrawF = some pf109 := by kernel_rfl
  unfold LinkR prog0
  rw [show fmS 109 = 10 from rfl, Try.func10]
  exact h
theorem link110 : LinkR 110 pf110 := by
  have h : (trF Try.prog cfgS Try.f11).map undrawF = some pf110 := by kernel_rfl
  unfold LinkR prog0
  rw [show fmS 110 = 11 from rfl, Try.func11]
  exact h
theorem link111 : LinkR 111 pf111 := by
  have h : (trF Try.prog cfgS Try.f12).map undrawF = some pf111 := by kernel_rfl
  unfold LinkR prog0
  rw [show fmS 111 = 12 from rfl, Try.func12]
  exact h
theorem link112 : LinkR 112 pf112 := by
  have h : (trF Try.prog cfgS Try.f13).map undrawF = some pf112 := by kernel_rfl
  unfold LinkR prog0
  rw [show fmS 112 = 13 from rfl, Try.func13]
  exact h
theorem link113 : LinkR 113 pf113 := by
  have h : (trF Try.prog cfgS Try.f15).map undrawF = some pf113 := by kernel_rfl
  unfold LinkR prog0
  rw [show fmS 113 = 15 from rfl, Try.func15]
  exact h
theorem link114 : LinkR 114 pf114 := by
  have h : (trF Try.prog cfgS Try.f16).map undrawF = some pf114 := by kernel_rfl
  unfold LinkR prog0
  rw [show fmS 114 = 16 from rfl, Try.func16]
  exact h
theorem link115 : LinkR 115 pf115 := by
  have h : (trF Try.prog cfgS Try.f33).map undrawF = some pf115 := by kernel_rfl
  unfold LinkR prog0
  rw [show fmS 115 = 33 from rfl, Try.func33]
  exact h
theorem link116 : LinkR 116 pf116 := by
  have h : (trF Try.prog cfgS Try.f34).map undrawF = some pf116 := by kernel_rfl
  unfold LinkR prog0
  rw [show fmS 116 = 34 from rfl, Try.func34]
  exact h
theorem link117 : LinkR 117 pf117 := by
  have h : (trF Try.prog cfgS Try.f35).map undrawF = some pf117 := by kernel_rfl
  unfold LinkR prog0
  rw [show fmS 117 = 35 from rfl, Try.func35]
  exact h
theorem link118 : LinkR 118 pf118 := by
  have h : (trF Try.prog cfgS Try.f36).map undrawF = some pf118 := by kernel_rfl
  unfold LinkR prog0
  rw [show fmS 118 = 36 from rfl, Try.func36]
  exact h
theorem link119 : LinkR 119 pf119 := by
  have h : (trF Try.prog cfgS Try.f37).map undrawF = some pf119 := by kernel_rfl
  unfold LinkR prog0
  rw [show fmS 119 = 37 from rfl, Try.func37]
  exact h
theorem link120 : LinkR 120 pf120 := by
  have h : (trF Try.prog cfgS Try.f45).map undrawF = some pf120 := by kernel_rfl
  unfold LinkR prog0
  rw [show fmS 120 = 45 from rfl, Try.func45]
  exact h
theorem link121 : LinkR 121 pf121 := by
  have h : (trF Try.prog cfgS Try.f46).map undrawF = some pf121 := by kernel_rfl
  unfold LinkR prog0
  rw [show fmS 121 = 46 from rfl, Try.func46]
  exact h
theorem links : ptree.All LinkR := ⟨⟨⟨⟨link6, link107⟩, ⟨link108, link109⟩⟩, ⟨⟨link110, link111⟩, ⟨link112, link113⟩⟩⟩, ⟨⟨⟨link114, link115⟩, ⟨link116, link117⟩⟩, ⟨⟨link118, link119⟩, ⟨link120, link121⟩⟩⟩⟩
theorem linkU (f : Nat) (pf' : PF) (h : prog f = some pf') : ∃ pf, prog0 f = some pf ∧ pf' = undrawF pf := by
  have := PT.find_all links h
  obtain ⟨pf, h1, h2⟩ := Option.map_eq_some_iff.1 this
  exact ⟨pf, h1, h2.symm⟩
theorem hextS : ∀ f b, cfgS.ext f = some b → ExtOk Try.prog f b := by intro f b h; simp [cfgS, extL] at h
theorem linked : Linked Try.prog fmS prog0 := by
  intro f pf h
  obtain ⟨fn, h1, h2⟩ := Option.bind_eq_some_iff.1 h
  exact ⟨fn, h1, trF_ok hextS h2⟩
theorem mixed : Try.prog.follows .mixedOrders = true := by kernel_rfl
end Go.Pi
