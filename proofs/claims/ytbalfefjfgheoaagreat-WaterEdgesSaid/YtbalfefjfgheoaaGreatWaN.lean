import Derived.Test.YtbalfefjfgheoaaGreatProg
import Derived.Test.YtbalfefjfgheoaaGreatKB
import Derived.Test.YtbalfefjfgheoaaGreatLX
set_option linter.all false
namespace Go.Pi
open Go.Proofs
def fiL:List (Option Nat):= [none,none,none,some 111,some 112,some 113,some 114,some 115,some 116,some 117,some 118,some 119,some 120,some 121,some 122,some 123,some 124,some 125,some 126,some 127,some 128,some 12,some 129,some 130,some 131,some 25,some 132,some 20,some 21,some 36,some 37,some 38,some 39,some 40,some 133,some 134,some 135,some 24,some 26,some 27,some 28,some 64,some 65,some 66,some 67,some 18,some 68,some 69,some 136,some 137,some 138,some 30,some 31,some 32,some 33,some 34,some 35,some 41,some 42,some 43,some 44,some 45,some 11,some 46,some 47,some 48,some 86,some 87,some 88,some 89,some 139,some 140,some 52,some 53,some 54,some 55,some 56,some 57,some 58,some 59,some 60,some 61,some 62,some 63,some 70,some 71,some 72,some 73,some 74,some 75,some 76,some 19,some 77,some 78,some 79,some 80,some 81,some 82,some 15,some 83,some 84,some 85,some 90,some 91,some 92,some 93,some 94,some 95,some 96,some 97,some 98,some 22,some 99,some 100,some 101,some 102,some 103,some 104,some 29,some 105,some 106,some 107,some 49,some 50,some 51,some 108]
def fmL:List Nat:= [0,0,0,0,0,0,0,0,0,0,0,62,21,0,0,98,0,0,45,91,27,28,111,0,37,25,38,39,40,118,51,52,53,54,55,56,29,30,31,32,33,57,58,59,60,61,63,64,65,122,123,124,72,73,74,75,76,77,78,79,80,81,82,83,41,42,43,44,46,47,84,85,86,87,88,89,90,92,93,94,95,96,97,99,100,101,66,67,68,69,102,103,104,105,106,107,108,109,110,112,113,114,115,116,117,119,120,121,125,0,0,3,4,5,6,7,8,9,10,11,12,13,14,15,16,17,18,19,20,22,23,24,26,34,35,36,48,49,50,70,71]
def heapyL:List Nat:= [37,65,137,138,34,45,46,47,89,139,140,52,53,54,55,56,77,79,92,29,49,50,51]
def modesL:List (Nat×List Nat):= [(96,[2]),(97,[2]),(102,[2]),(105,[2]),(108,[2])]
def extL:List (Nat×Bool):= [(112,false),(113,true)]
def fnsL:List Nat:= [119]
def nqL:List Nat:= [117,118,120,121,122,123,124,125,126,127,128,12,131,25,132,20,36,38,133,134,135,24,26,28,65,66,138,30,31,41,42,44,45,46,47,139,140,70,73,74,75,76,77,79,81,90,91,92,93,94,96,97,102,29,105,49,50,51,108]
def nqS (f:Nat):Bool:=nqL.contains f
def fmS (n:Nat):Nat:=fmL.getD n 0
def cfgS:Cfg:=⟨fun n=>(fiL[n]?).join,fmS,fun n=>heapyL.contains n,fun n=>(modesL.lookup n).getD [],fun n=>extL.lookup n,fnsL⟩
noncomputable def prog0:Prog:=fun f=>(Tryz.prog.funcs[fmS f]?).bind (trF Tryz.prog cfgS)
noncomputable abbrev prog:Prog:=progU nqS prog0
end Go.Pi

