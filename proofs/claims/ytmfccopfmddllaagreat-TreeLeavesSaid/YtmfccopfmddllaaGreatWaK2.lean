import Derived.Test.YtmfccopfmddllaaGreatWaH
set_option linter.all false
namespace Go.Pi
set_option linter.unusedVariables false
set_option maxRecDepth 100000
def tx2:List UInt8:= [116,111,107,101,110,32,97,32,61,32,97,43,10,116,111,107,101,110,32,98,32,61,32,98,40,97,124,98,41,42,10,115,99,111,112,101,32,104,32,61,32,45,48,10,114,117,108,101,32,115,32,61,32,97,32,58,32,104,10,114,117,108,101,32,115,32,61,32,98,10,115,121,110,99,32,92,120,48,97,32,124,32,46,10,109,97,120,32,57,10]
def gr2:GrT:=([([97],.mk 5 ⟨[0,0,0,0],rfl⟩ [.mk 1 ⟨[0,8589934592,0,0],rfl⟩ []],false,()),([98],.mk 2 ⟨[0,0,0,0],rfl⟩ [.mk 1 ⟨[0,17179869184,0,0],rfl⟩ [],.mk 4 ⟨[0,0,0,0],rfl⟩ [.mk 3 ⟨[0,0,0,0],rfl⟩ [.mk 1 ⟨[0,8589934592,0,0],rfl⟩ [],.mk 1 ⟨[0,17179869184,0,0],rfl⟩ []]]],false,())],[[115]],[([104],[45,48],())],[(0,[(-1)],0,()),(0,[(-2)],(-1),())],[⟨[1024,0,0,0],rfl⟩],[⟨[18446744073709551615,18446744073709551615,18446744073709551615,18446744073709551615],rfl⟩],9,())
theorem zpl:G24 K0 (tx2,())=some (gr2,0,0,()):=by kernel_rfl
theorem zk6:Y5 gr2=true:=by kernel_rfl
theorem zk1:zaa gr2=true:=by kernel_rfl
theorem zpq:G27 K0 (gr2,())=some (0,0,()):=by kernel_rfl
theorem zpv:zbp gr2=true:=by kernel_rfl
end Go.Pi
