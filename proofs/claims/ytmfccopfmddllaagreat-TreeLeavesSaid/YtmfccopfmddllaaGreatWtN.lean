import Derived.Test.YtmfccopfmddllaaGreatProg
import Derived.Test.YtmfccopfmddllaaGreatPiX
import Derived.Test.YtmfccopfmddllaaGreatLX
set_option linter.all false
namespace Go.Pi
open Go.Proofs
def fiL:List (Option Nat):= [none,none,none,some 141,some 142,some 143,some 144,some 145,some 146,some 147,some 148,some 149,some 150,some 151,some 152,some 153,some 154,some 155,some 131,some 8,some 156,some 157,some 158,some 159,some 160,some 12,some 127,some 161,some 128,some 162,some 163,some 164,some 165,some 166,some 4,some 5,some 60,some 167,some 168,some 169,some 170,some 171,some 20,some 21,some 172,some 25,some 132,some 173,some 174,some 175,some 176,some 177,some 178,some 179,some 13,some 14,some 15,some 16,some 83,some 84,some 85,some 24,some 26,some 27,some 28,some 36,some 37,some 38,some 39,some 40,some 133,some 134,some 135,some 180,some 181,some 182,some 22,some 19,some 11,some 99,some 100,some 30,some 31,some 32,some 33,some 34,some 35,some 41,some 42,some 43,some 44,some 45,some 46,some 47,some 48,some 64,some 65,some 66,some 67,some 18,some 68,some 69,some 136,some 137,some 138,some 183,some 29,some 52,some 53,some 54,some 55,some 56,some 57,some 58,some 59,some 61,some 62,some 63,some 70,some 71,some 72,some 73,some 74,some 75,some 76,some 77,some 78,some 79,some 80,some 86,some 87,some 88,some 89,some 139,some 140,some 184,some 49,some 50,some 51,some 81,some 82,some 90,some 91,some 92,some 93,some 94,some 95,some 96,some 97,some 98,some 101,some 102,some 103,some 104,some 105,some 106,some 107,some 108,none,none,none,none,none,none,none,none,none,none,none,none,none,none,none,some 109]
def fmL:List Nat:= [0,0,0,0,34,35,0,0,19,0,0,78,25,54,55,56,57,0,99,77,42,43,76,0,61,45,62,63,64,106,81,82,83,84,85,86,65,66,67,68,69,87,88,89,90,91,92,93,94,136,137,138,107,108,109,110,111,112,113,114,36,115,116,117,95,96,97,98,100,101,118,119,120,121,122,123,124,125,126,127,128,139,140,58,59,60,129,130,131,132,141,142,143,144,145,146,147,148,149,79,80,150,151,152,153,154,155,156,157,173,0,0,0,0,0,0,0,0,0,0,0,0,0,0,0,0,0,26,28,0,0,18,46,70,71,72,102,103,104,133,134,3,4,5,6,7,8,9,10,11,12,13,14,15,16,17,20,21,22,23,24,27,29,30,31,32,33,37,38,39,40,41,44,47,48,49,50,51,52,53,73,74,75,105,135]
def zjZ:List Nat:= [4,37,34,45,46,47,65,137,138,29,52,53,54,55,56,77,79,89,139,140,49,50,51,92]
def zjG:List (Nat×List Nat):= [(5,[2]),(13,[2]),(14,[2]),(16,[2]),(96,[2]),(97,[2]),(102,[2]),(105,[2]),(108,[2]),(109,[2])]
def zla:List (Nat×Bool):= [(79,false),(80,true)]
def zpz:List Nat:= [164]
def nqL:List Nat:= [152,153,131,156,157,158,159,12,127,161,128,162,4,5,167,20,25,132,13,14,16,24,26,28,36,38,133,134,135,30,31,41,42,44,45,46,47,65,66,138,29,70,73,74,75,76,77,79,139,140,49,50,51,81,90,91,92,93,94,96,97,102,105,108,109]
def nqS (f:Nat):Bool:=nqL.contains f
def fmS (n:Nat):Nat:=fmL.getD n 0
def ziT:Cfg:=⟨fun n=>(fiL[n]?).join,fmS,fun n=>zjZ.contains n,fun n=>(zjG.lookup n).getD [],fun n=>zla.lookup n,zpz⟩
noncomputable def zeL:yn:=fun f=>(Tryz.prog.funcs[fmS f]?).bind (trF Tryz.prog ziT)
noncomputable abbrev prog:yn:=yv nqS zeL
end Go.Pi
