import Derived.Test.YtakonddhaabobaaGreatSzB
import Derived.Test.YtakonddhaabobaaGreatProg
import Derived.Test.YtakonddhaabobaaGreatSzP
import Derived.Test.YtakonddhaabobaaGreatLP
set_option linter.all false
namespace Go.Pi
open Go.Proofs
set_option linter.unusedVariables false
set_option maxRecDepth 100000
def fiL : List (Option Nat) := [none, none, none, some 0, some 1, some 2, some 3, some 4, some 5, some 6, some 7, some 8, some 9, some 10, some 11, some 12, some 13, some 14, some 15, some 16, some 17, some 18, some 19, some 20, some 21, some 22, some 23, some 24, some 25, some 26, some 27, some 28, some 29, some 30, some 31, some 32, some 33, some 34, some 35, some 36, some 37, some 38, some 39, some 40, some 41, some 42, some 43, some 44, some 45, some 46, some 47, some 48, some 49, some 50, some 51, some 52, some 53, some 54, some 55, some 56, some 57, some 58, some 59, some 60, some 61, some 62, some 63, some 64, some 65, some 66, some 67, some 68, some 69, some 70, some 71, some 72, some 73, some 74, some 75, some 76, some 77, some 78, some 79, some 80, some 81, some 82, some 83, some 84, some 85, some 86, some 87, some 88, some 89, some 90, some 91, some 92, some 93, some 94, some 95, some 96, some 97, some 98, some 99, some 100, some 101, some 102, some 103, some 104, some 105, some 106, some 107, some 108, none, none, none, none, none, none, none, none, none, none, none, none, none, none, none, some 109]
def fmL : List Nat := [3, 4, 5, 6, 7, 8, 9, 10, 11, 12, 13, 14, 15, 16, 17, 18, 19, 20, 21, 22, 23, 24, 25, 26, 27, 28, 29, 30, 31, 32, 33, 34, 35, 36, 37, 38, 39, 40, 41, 42, 43, 44, 45, 46, 47, 48, 49, 50, 51, 52, 53, 54, 55, 56, 57, 58, 59, 60, 61, 62, 63, 64, 65, 66, 67, 68, 69, 70, 71, 72, 73, 74, 75, 76, 77, 78, 79, 80, 81, 82, 83, 84, 85, 86, 87, 88, 89, 90, 91, 92, 93, 94, 95, 96, 97, 98, 99, 100, 101, 102, 103, 104, 105, 106, 107, 108, 109, 110, 111, 127]
def heapyL : List Nat := [4, 29, 34, 37, 45, 49, 50, 51, 52, 53, 54, 55, 56, 65, 89]
def modesL : List (Nat × List Nat) := [(5, [2]), (13, [2]), (14, [2]), (16, [2]), (77, [0, 1]), (79, [1]), (96, [2]), (97, [2]), (102, [2]), (105, [2]), (108, [2]), (109, [2])]
def extL : List (Nat × Bool) := [(102, false), (103, true)]
def fnsL : List Nat := []
def nqL : List Nat := [4, 5, 9, 10, 12, 13, 14, 16, 20, 24, 25, 26, 28, 29, 30, 31, 36, 38, 41, 42, 44, 45, 46, 47, 49, 50, 51, 65, 66, 70, 73, 74, 75, 76, 77, 79, 81, 90, 91, 92, 93, 94, 96, 97, 102, 105, 108, 109]
def nqS (f : Nat) : Bool := nqL.contains f
def fmS (n : Nat) : Nat := fmL.getD n 0
def cfgS : Cfg := ⟨fun n => (fiL[n]?).join, fmS, fun n => heapyL.contains n, fun n => (modesL.lookup n).getD [], fun n => extL.lookup n, fnsL⟩
def orcF : Nat → Option (List D → Option D)
 | _ => none
noncomputable def prog0 : Prog := fun f => match orcF f with
 | some g => some ⟨0, [], .skip, some g⟩
 | none => (Tryz.prog.funcs[fmS f]?).bind (trF Tryz.prog cfgS)
def undS (p : PF) : PF := slimF (undrawF nqS p)
def LinkR (k : Nat) (f : PF) : Prop := (prog0 k).map undS = some f
theorem lk {k i : Nat} {fi : Func} {f : PF} (h0 : orcF k = none) (h1 : fmS k = i) (h2 : Tryz.prog.funcs[i]? = some fi) (h3 : (trF Tryz.prog cfgS fi).map undS = some f) : LinkR k f := by
 unfold LinkR prog0
 rw [h0]
 show ((Tryz.prog.funcs[fmS k]?).bind (trF Tryz.prog cfgS)).map undS = some f
 rw [h1, h2]
 exact h3
theorem link2 : LinkR 2 pf2 := lk rfl rfl Tryz.func5 (by kernel_rfl)
theorem link3 : LinkR 3 pf3 := lk rfl rfl Tryz.func6 (by kernel_rfl)
theorem link4 : LinkR 4 pf4 := lk rfl rfl Tryz.func7 (by kernel_rfl)
theorem link5 : LinkR 5 pf5 := lk rfl rfl Tryz.func8 (by kernel_rfl)
theorem link6 : LinkR 6 pf6 := lk rfl rfl Tryz.func9 (by kernel_rfl)
theorem link9 : LinkR 9 pf9 := lk rfl rfl Tryz.func12 (by kernel_rfl)
theorem link11 : LinkR 11 pf11 := lk rfl rfl Tryz.func14 (by kernel_rfl)
theorem link12 : LinkR 12 pf12 := lk rfl rfl Tryz.func15 (by kernel_rfl)
theorem link13 : LinkR 13 pf13 := lk rfl rfl Tryz.func16 (by kernel_rfl)
theorem link14 : LinkR 14 pf14 := lk rfl rfl Tryz.func17 (by kernel_rfl)
theorem link15 : LinkR 15 pf15 := lk rfl rfl Tryz.func18 (by kernel_rfl)
theorem link16 : LinkR 16 pf16 := lk rfl rfl Tryz.func19 (by kernel_rfl)
theorem link17 : LinkR 17 pf17 := lk rfl rfl Tryz.func20 (by kernel_rfl)
theorem link18 : LinkR 18 pf18 := lk rfl rfl Tryz.func21 (by kernel_rfl)
theorem link19 : LinkR 19 pf19 := lk rfl rfl Tryz.func22 (by kernel_rfl)
theorem link20 : LinkR 20 pf20 := lk rfl rfl Tryz.func23 (by kernel_rfl)
theorem link21 : LinkR 21 pf21 := lk rfl rfl Tryz.func24 (by kernel_rfl)
theorem link22 : LinkR 22 pf22 := lk rfl rfl Tryz.func25 (by kernel_rfl)
theorem link23 : LinkR 23 pf23 := lk rfl rfl Tryz.func26 (by kernel_rfl)
theorem link24 : LinkR 24 pf24 := lk rfl rfl Tryz.func27 (by kernel_rfl)
theorem link25 : LinkR 25 pf25 := lk rfl rfl Tryz.func28 (by kernel_rfl)
theorem link26 : LinkR 26 pf26 := lk rfl rfl Tryz.func29 (by kernel_rfl)
theorem link27 : LinkR 27 pf27 := lk rfl rfl Tryz.func30 (by kernel_rfl)
theorem link28 : LinkR 28 pf28 := lk rfl rfl Tryz.func31 (by kernel_rfl)
theorem link29 : LinkR 29 pf29 := lk rfl rfl Tryz.func32 (by kernel_rfl)
theorem link30 : LinkR 30 pf30 := lk rfl rfl Tryz.func33 (by kernel_rfl)
theorem link31 : LinkR 31 pf31 := lk rfl rfl Tryz.func34 (by kernel_rfl)
theorem link32 : LinkR 32 pf32 := lk rfl rfl Tryz.func35 (by kernel_rfl)
theorem link33 : LinkR 33 pf33 := lk rfl rfl Tryz.func36 (by kernel_rfl)
theorem link34 : LinkR 34 pf34 := lk rfl rfl Tryz.func37 (by kernel_rfl)
theorem link35 : LinkR 35 pf35 := lk rfl rfl Tryz.func38 (by kernel_rfl)
theorem link36 : LinkR 36 pf36 := lk rfl rfl Tryz.func39 (by kernel_rfl)
theorem link37 : LinkR 37 pf37 := lk rfl rfl Tryz.func40 (by kernel_rfl)
theorem link38 : LinkR 38 pf38 := lk rfl rfl Tryz.func41 (by kernel_rfl)
theorem link39 : LinkR 39 pf39 := lk rfl rfl Tryz.func42 (by kernel_rfl)
theorem link40 : LinkR 40 pf40 := lk rfl rfl Tryz.func43 (by kernel_rfl)
theorem link41 : LinkR 41 pf41 := lk rfl rfl Tryz.func44 (by kernel_rfl)
theorem link42 : LinkR 42 pf42 := lk rfl rfl Tryz.func45 (by kernel_rfl)
theorem link43 : LinkR 43 pf43 := lk rfl rfl Tryz.func46 (by kernel_rfl)
theorem link44 : LinkR 44 pf44 := lk rfl rfl Tryz.func47 (by kernel_rfl)
theorem link45 : LinkR 45 pf45 := lk rfl rfl Tryz.func48 (by kernel_rfl)
theorem link46 : LinkR 46 pf46 := lk rfl rfl Tryz.func49 (by kernel_rfl)
theorem link47 : LinkR 47 pf47 := lk rfl rfl Tryz.func50 (by kernel_rfl)
theorem link48 : LinkR 48 pf48 := lk rfl rfl Tryz.func51 (by kernel_rfl)
theorem link49 : LinkR 49 pf49 := lk rfl rfl Tryz.func52 (by kernel_rfl)
theorem link50 : LinkR 50 pf50 := lk rfl rfl Tryz.func53 (by kernel_rfl)
theorem link51 : LinkR 51 pf51 := lk rfl rfl Tryz.func54 (by kernel_rfl)
theorem link52 : LinkR 52 pf52 := lk rfl rfl Tryz.func55 (by kernel_rfl)
theorem link53 : LinkR 53 pf53 := lk rfl rfl Tryz.func56 (by kernel_rfl)
theorem link54 : LinkR 54 pf54 := lk rfl rfl Tryz.func57 (by kernel_rfl)
theorem link55 : LinkR 55 pf55 := lk rfl rfl Tryz.func58 (by kernel_rfl)
theorem link56 : LinkR 56 pf56 := lk rfl rfl Tryz.func59 (by kernel_rfl)
theorem link57 : LinkR 57 pf57 := lk rfl rfl Tryz.func60 (by kernel_rfl)
theorem link58 : LinkR 58 pf58 := lk rfl rfl Tryz.func61 (by kernel_rfl)
theorem link59 : LinkR 59 pf59 := lk rfl rfl Tryz.func62 (by kernel_rfl)
theorem link60 : LinkR 60 pf60 := lk rfl rfl Tryz.func63 (by kernel_rfl)
theorem link61 : LinkR 61 pf61 := lk rfl rfl Tryz.func64 (by kernel_rfl)
theorem link62 : LinkR 62 pf62 := lk rfl rfl Tryz.func65 (by kernel_rfl)
theorem link63 : LinkR 63 pf63 := lk rfl rfl Tryz.func66 (by kernel_rfl)
theorem link64 : LinkR 64 pf64 := lk rfl rfl Tryz.func67 (by kernel_rfl)
theorem link65 : LinkR 65 pf65 := lk rfl rfl Tryz.func68 (by kernel_rfl)
theorem link66 : LinkR 66 pf66 := lk rfl rfl Tryz.func69 (by kernel_rfl)
theorem link67 : LinkR 67 pf67 := lk rfl rfl Tryz.func70 (by kernel_rfl)
theorem link68 : LinkR 68 pf68 := lk rfl rfl Tryz.func71 (by kernel_rfl)
theorem link69 : LinkR 69 pf69 := lk rfl rfl Tryz.func72 (by kernel_rfl)
theorem link70 : LinkR 70 pf70 := lk rfl rfl Tryz.func73 (by kernel_rfl)
theorem link71 : LinkR 71 pf71 := lk rfl rfl Tryz.func74 (by kernel_rfl)
theorem link72 : LinkR 72 pf72 := lk rfl rfl Tryz.func75 (by kernel_rfl)
theorem link73 : LinkR 73 pf73 := lk rfl rfl Tryz.func76 (by kernel_rfl)
theorem link74 : LinkR 74 pf74 := lk rfl rfl Tryz.func77 (by kernel_rfl)
theorem link75 : LinkR 75 pf75 := lk rfl rfl Tryz.func78 (by kernel_rfl)
theorem link76 : LinkR 76 pf76 := lk rfl rfl Tryz.func79 (by kernel_rfl)
theorem link77 : LinkR 77 pf77 := lk rfl rfl Tryz.func80 (by kernel_rfl)
theorem link78 : LinkR 78 pf78 := lk rfl rfl Tryz.func81 (by kernel_rfl)
theorem link79 : LinkR 79 pf79 := lk rfl rfl Tryz.func82 (by kernel_rfl)
theorem link80 : LinkR 80 pf80 := lk rfl rfl Tryz.func83 (by kernel_rfl)
theorem link81 : LinkR 81 pf81 := lk rfl rfl Tryz.func84 (by kernel_rfl)
theorem link82 : LinkR 82 pf82 := lk rfl rfl Tryz.func85 (by kernel_rfl)
theorem link83 : LinkR 83 pf83 := lk rfl rfl Tryz.func86 (by kernel_rfl)
theorem link84 : LinkR 84 pf84 := lk rfl rfl Tryz.func87 (by kernel_rfl)
theorem link85 : LinkR 85 pf85 := lk rfl rfl Tryz.func88 (by kernel_rfl)
theorem link86 : LinkR 86 pf86 := lk rfl rfl Tryz.func89 (by kernel_rfl)
theorem link87 : LinkR 87 pf87 := lk rfl rfl Tryz.func90 (by kernel_rfl)
theorem link88 : LinkR 88 pf88 := lk rfl rfl Tryz.func91 (by kernel_rfl)
theorem link89 : LinkR 89 pf89 := lk rfl rfl Tryz.func92 (by kernel_rfl)
theorem link90 : LinkR 90 pf90 := lk rfl rfl Tryz.func93 (by kernel_rfl)
theorem link91 : LinkR 91 pf91 := lk rfl rfl Tryz.func94 (by kernel_rfl)
theorem link92 : LinkR 92 pf92 := lk rfl rfl Tryz.func95 (by kernel_rfl)
theorem link93 : LinkR 93 pf93 := lk rfl rfl Tryz.func96 (by kernel_rfl)
theorem link94 : LinkR 94 pf94 := lk rfl rfl Tryz.func97 (by kernel_rfl)
theorem link95 : LinkR 95 pf95 := lk rfl rfl Tryz.func98 (by kernel_rfl)
theorem link96 : LinkR 96 pf96 := lk rfl rfl Tryz.func99 (by kernel_rfl)
theorem link97 : LinkR 97 pf97 := lk rfl rfl Tryz.func100 (by kernel_rfl)
theorem link98 : LinkR 98 pf98 := lk rfl rfl Tryz.func101 (by kernel_rfl)
theorem link101 : LinkR 101 pf101 := lk rfl rfl Tryz.func104 (by kernel_rfl)
theorem link102 : LinkR 102 pf102 := lk rfl rfl Tryz.func105 (by kernel_rfl)
theorem link103 : LinkR 103 pf103 := lk rfl rfl Tryz.func106 (by kernel_rfl)
theorem link104 : LinkR 104 pf104 := lk rfl rfl Tryz.func107 (by kernel_rfl)
theorem link105 : LinkR 105 pf105 := lk rfl rfl Tryz.func108 (by kernel_rfl)
theorem link106 : LinkR 106 pf106 := lk rfl rfl Tryz.func109 (by kernel_rfl)
theorem link107 : LinkR 107 pf107 := lk rfl rfl Tryz.func110 (by kernel_rfl)
theorem link108 : LinkR 108 pf108 := lk rfl rfl Tryz.func111 (by kernel_rfl)
theorem links : ptree.All LinkR := ⟨⟨⟨⟨⟨⟨link2, ⟨link3, link4⟩⟩, ⟨link5, ⟨link6, link9⟩⟩⟩, ⟨⟨link11, ⟨link12, link13⟩⟩, ⟨link14, ⟨link15, link16⟩⟩⟩⟩, ⟨⟨⟨link17, ⟨link18, link19⟩⟩, ⟨link20, ⟨link21, link22⟩⟩⟩, ⟨⟨link23, ⟨link24, link25⟩⟩, ⟨⟨link26, link27⟩, ⟨link28, link29⟩⟩⟩⟩⟩, ⟨⟨⟨⟨link30, ⟨link31, link32⟩⟩, ⟨link33, ⟨link34, link35⟩⟩⟩, ⟨⟨link36, ⟨link37, link38⟩⟩, ⟨⟨link39, link40⟩, ⟨link41, link42⟩⟩⟩⟩, ⟨⟨⟨link43, ⟨link44, link45⟩⟩, ⟨link46, ⟨link47, link48⟩⟩⟩, ⟨⟨link49, ⟨link50, link51⟩⟩, ⟨⟨link52, link53⟩, ⟨link54, link55⟩⟩⟩⟩⟩⟩, ⟨⟨⟨⟨⟨link56, ⟨link57, link58⟩⟩, ⟨link59, ⟨link60, link61⟩⟩⟩, ⟨⟨link62, ⟨link63, link64⟩⟩, ⟨link65, ⟨link66, link67⟩⟩⟩⟩, ⟨⟨⟨link68, ⟨link69, link70⟩⟩, ⟨link71, ⟨link72, link73⟩⟩⟩, ⟨⟨link74, ⟨link75, link76⟩⟩, ⟨⟨link77, link78⟩, ⟨link79, link80⟩⟩⟩⟩⟩, ⟨⟨⟨⟨link81, ⟨link82, link83⟩⟩, ⟨link84, ⟨link85, link86⟩⟩⟩, ⟨⟨link87, ⟨link88, link89⟩⟩, ⟨⟨link90, link91⟩, ⟨link92, link93⟩⟩⟩⟩, ⟨⟨⟨link94, ⟨link95, link96⟩⟩, ⟨link97, ⟨link98, link101⟩⟩⟩, ⟨⟨link102, ⟨link103, link104⟩⟩, ⟨⟨link105, link106⟩, ⟨link107, link108⟩⟩⟩⟩⟩⟩⟩
theorem linkU (f : Nat) (pf' : PF) (h : prog f = some pf') : ∃ pf, prog0 f = some pf ∧ pf' = slimF (undrawF nqS pf) := by
 have := PT.find_all links h
 obtain ⟨pf, h1, h2⟩ := Option.map_eq_some_iff.1 this
 exact ⟨pf, h1, h2.symm⟩
theorem hextS : ∀ f b, cfgS.ext f = some b → ExtOk Tryz.prog f b := by
 intro f b h
 simp only [cfgS, extL, List.lookup] at h
 split at h
 ·rename_i e
  injection h with h
  subst h
  obtain rfl : f = 102 := by simpa using e
  simp only [ExtOk, if_true, Bool.false_eq_true, if_false]
  exact Go.Proofs.YtakonddhaabobaaGreat.frombits
 split at h
 ·rename_i e
  injection h with h
  subst h
  obtain rfl : f = 103 := by simpa using e
  simp only [ExtOk, if_true, Bool.false_eq_true, if_false]
  exact Go.Proofs.YtakonddhaabobaaGreat.tobits
 cases h
theorem linked : Linked Tryz.prog fmS prog0 := by
 intro f pf h
 unfold prog0 at h
 split at h
 ·rename_i g hg; cases hg
 ·obtain ⟨fn, h1, h2⟩ := Option.bind_eq_some_iff.1 h
  exact .inl ⟨fn, h1, trF_ok hextS h2⟩
theorem mixed : Tryz.prog.follows .mixedOrders = true := by kernel_rfl
end Go.Pi

