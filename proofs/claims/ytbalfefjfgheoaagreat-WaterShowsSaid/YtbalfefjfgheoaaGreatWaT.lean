import Derived.Test.YtbalfefjfgheoaaGreatProg
import Derived.Laws.FloatArith
import Derived.WalkKit
import Derived.ProofKit
import Derived.Test.YtbalfefjfgheoaaGreatWaN
import Derived.Test.YtbalfefjfgheoaaGreatLP
import Derived.Test.YtbalfefjfgheoaaGreatLX
set_option linter.all false
namespace Go.Proofs.YtbalfefjfgheoaaGreat
open Go.RowKit
theorem frombits (n:Int) (w:World):(callFunc 112 #[.int .u64 n]).run Tryz.prog w= .ok (.value (.float .f64 n.toNat)) w:=by
 rw [run_callFunc_extern (fn:=Tryz.f112) (e:=Extern.MathFloatBits.float64frombits) Tryz.func112 (by kernel_rfl) (by kernel_rfl) (by kernel_rfl) (by kernel_rfl)]
 rfl
theorem tobits (b:Nat) (w:World):(callFunc 113 #[.float .f64 b]).run Tryz.prog w= .ok (.value (.int .u64 b)) w:=by
 rw [run_callFunc_extern (fn:=Tryz.f113) (e:=Extern.MathFloatBits.float64bits) Tryz.func113 (by kernel_rfl) (by kernel_rfl) (by kernel_rfl) (by kernel_rfl)]
 rfl
end Go.Proofs.YtbalfefjfgheoaaGreat
namespace Go.Pi
open Go.Proofs
set_option linter.unusedVariables false
set_option maxRecDepth 100000
theorem linkU (f:Nat) (pf':PF) (h:prog f=some pf'): ∃pf,prog0 f=some pf∧pf'=slimF (undrawF nqS pf):=by
 obtain ⟨p,h1,h2⟩:=Option.map_eq_some_iff.1 h
 exact ⟨p,h1,h2.symm⟩
theorem hextS: ∀f b,cfgS.ext f=some b→ExtOk Tryz.prog f b:=by
 intro f b h
 simp only [cfgS,extL,List.lookup] at h
 split at h
 ·rename_i e
  injection h with h
  subst h
  obtain rfl:f=112:=by simpa using e
  simp only [ExtOk,if_true,Bool.false_eq_true,if_false]
  exact Go.Proofs.YtbalfefjfgheoaaGreat.frombits
 split at h
 ·rename_i e
  injection h with h
  subst h
  obtain rfl:f=113:=by simpa using e
  simp only [ExtOk,if_true,Bool.false_eq_true,if_false]
  exact Go.Proofs.YtbalfefjfgheoaaGreat.tobits
 cases h
theorem linked:Linked Tryz.prog fmS prog0:=by
 intro f pf h
 obtain ⟨fn,h1,h2⟩:=Option.bind_eq_some_iff.1 h
 exact .inl ⟨fn,h1,trF_ok hextS h2⟩
theorem mixed:Tryz.prog.follows .mixedOrders=true:=by kernel_rfl
end Go.Pi
namespace Go.Pi
abbrev SetT:= {l:List Int // l.length=4}
abbrev Arr256:= {l:List Int // l.length=256}
inductive RxT where
 | mk (k:Int) (s:SetT) (a:List RxT)
def RxT.k:RxT→Int
 | .mk k _ _=>k
def RxT.s:RxT→SetT
 | .mk _ s _=>s
def RxT.a:RxT→List RxT
 | .mk _ _ a=>a
mutual
def RxT.D:RxT→List D
 | .mk k s a=> .int .i64 k::(s.1.map (fun n=>D.int .u64 n) ++ [.lst 6 (RxT.Ds a)])
def RxT.Ds:List RxT→List (List Go.Pi.D)
 | []=> []
 | x::xs=>x.D::RxT.Ds xs
end
theorem RxT.Ds_map: ∀l:List RxT,RxT.Ds l=l.map RxT.D
 | []=>rfl
 | x::xs=>by simp only [RxT.Ds,List.map,RxT.Ds_map xs]
abbrev TokT:=(List UInt8)×RxT×Bool×Unit
abbrev ScT:=(List UInt8)×(List UInt8)×Unit
abbrev RuT:=Int×(List (Int))×Int×Unit
abbrev GrT:=(List (TokT))×(List (List UInt8))×(List (ScT))×(List (RuT))×(List (SetT))×(List (SetT))×Int×Unit
abbrev PkT:=Unit
abbrev DfaT6:=Arr256×(List (List (Int)))×(List (Int))×Unit
abbrev PlacesT7:=(List (SetT))×(List (Int))×(List (Int))×(List (List (Int)))×Bool×Unit
abbrev AtT8:=Int×Int×Unit
abbrev ActT9:=Int×Int×Unit
abbrev TableT10:=(List (List (ActT9)))×(List (List (Int)))×Unit
abbrev ItemT11:=Int×Int×Int×Unit
abbrev StateT12:=Int×Int×Int×Unit
abbrev MakerT13:=GrT×(List (List UInt8))×Int×Bool×Bool×Unit
abbrev MachineT14:=(List (PlacesT7))×(List (List (AtT8)))×(List (Int))×Unit
abbrev WideT15:=GrT×(List (PlacesT7))×(List (Bool))×(List (Bool))×(List (List (Bool)))×Unit
abbrev ReaderT16:=(List UInt8)×Int×Int×Int×Unit
abbrev NodeT17:=Int×Int×Int×Int×Int×Unit
abbrev SpanT18:=Int×Int×(List (NodeT17))×Unit
abbrev WordT19:=Int×Int×Int×Unit
abbrev ChartT20:=GrT×(List (WordT19))×(List (List (List (Bool))))×Unit
def RxTD (v:RxT):List D:=v.D
def TokTD (v:TokT):List D:= [.str v.1]++((RxTD v.2.1)++([.bool v.2.2.1]++([])))
def ScTD (v:ScT):List D:= [.str v.1]++([.str v.2.1]++([]))
def RuTD (v:RuT):List D:= [.int .i64 v.1]++([.lst 1 (v.2.1.map (fun x=> [.int .i64 x]))]++([.int .i64 v.2.2.1]++([])))
def GrTD (v:GrT):List D:= [.lst 8 (v.1.map TokTD)]++([.lst 1 (v.2.1.map (fun x=> [.str x]))]++([.lst 2 (v.2.2.1.map ScTD)]++([.lst 3 (v.2.2.2.1.map RuTD)]++([.lst 4 (v.2.2.2.2.1.map (fun x=>(x.1.map fun n=>D.int .u64 n)))]++([.lst 4 (v.2.2.2.2.2.1.map (fun x=>(x.1.map fun n=>D.int .u64 n)))]++([.int .i64 v.2.2.2.2.2.2.1]++([])))))))
def PkTD (v:PkT):List D:= []
def DfaT6D (v:DfaT6):List D:=(v.1.1.map fun n=>D.int .u8 n)++([.lst 1 (v.2.1.map (fun x=> [.lst 1 (x.map (fun x=> [.int .i64 x]))]))]++([.lst 1 (v.2.2.1.map (fun x=> [.int .i64 x]))]++([])))
def PlacesT7D (v:PlacesT7):List D:= [.lst 4 (v.1.map (fun x=>(x.1.map fun n=>D.int .u64 n)))]++([.lst 1 (v.2.1.map (fun x=> [.int .i64 x]))]++([.lst 1 (v.2.2.1.map (fun x=> [.int .i64 x]))]++([.lst 1 (v.2.2.2.1.map (fun x=> [.lst 1 (x.map (fun x=> [.int .i64 x]))]))]++([.bool v.2.2.2.2.1]++([])))))
def AtT8D (v:AtT8):List D:= [.int .i64 v.1]++([.int .i64 v.2.1]++([]))
def ActT9D (v:ActT9):List D:= [.int .i64 v.1]++([.int .i64 v.2.1]++([]))
def TableT10D (v:TableT10):List D:= [.lst 1 (v.1.map (fun x=> [.lst 2 (x.map ActT9D)]))]++([.lst 1 (v.2.1.map (fun x=> [.lst 1 (x.map (fun x=> [.int .i64 x]))]))]++([]))
def ItemT11D (v:ItemT11):List D:= [.int .i64 v.1]++([.int .i64 v.2.1]++([.int .i64 v.2.2.1]++([])))
def StateT12D (v:StateT12):List D:= [.int .i64 v.1]++([.int .i64 v.2.1]++([.int .i64 v.2.2.1]++([])))
def MakerT13D (v:MakerT13):List D:=(GrTD v.1)++([.lst 1 (v.2.1.map (fun x=> [.str x]))]++([.int .i64 v.2.2.1]++([.bool v.2.2.2.1]++([.bool v.2.2.2.2.1]++([])))))
def MachineT14D (v:MachineT14):List D:= [.lst 5 (v.1.map PlacesT7D)]++([.lst 1 (v.2.1.map (fun x=> [.lst 2 (x.map AtT8D)]))]++([.lst 1 (v.2.2.1.map (fun x=> [.int .u8 x]))]++([])))
def WideT15D (v:WideT15):List D:=(GrTD v.1)++([.lst 5 (v.2.1.map PlacesT7D)]++([.lst 1 (v.2.2.1.map (fun x=> [.bool x]))]++([.lst 1 (v.2.2.2.1.map (fun x=> [.bool x]))]++([.lst 1 (v.2.2.2.2.1.map (fun x=> [.lst 1 (x.map (fun x=> [.bool x]))]))]++([])))))
def ReaderT16D (v:ReaderT16):List D:= [.str v.1]++([.int .i64 v.2.1]++([.int .i64 v.2.2.1]++([.int .i64 v.2.2.2.1]++([]))))
def NodeT17D (v:NodeT17):List D:= [.int .i64 v.1]++([.int .i64 v.2.1]++([.int .i64 v.2.2.1]++([.int .i64 v.2.2.2.1]++([.int .i64 v.2.2.2.2.1]++([])))))
def SpanT18D (v:SpanT18):List D:= [.int .i64 v.1]++([.int .i64 v.2.1]++([.lst 5 (v.2.2.1.map NodeT17D)]++([])))
def WordT19D (v:WordT19):List D:= [.int .i64 v.1]++([.int .i64 v.2.1]++([.int .i64 v.2.2.1]++([])))
def ChartT20D (v:ChartT20):List D:=(GrTD v.1)++([.lst 3 (v.2.1.map WordT19D)]++([.lst 1 (v.2.2.1.map (fun x=> [.lst 1 (x.map (fun x=> [.lst 1 (x.map (fun x=> [.bool x]))]))]))]++([])))
@[reducible] def SyS:Nat→Type
 | 0=>RxT
 | 1=>TokT
 | 2=>ScT
 | 3=>RuT
 | 4=>GrT
 | 5=>PkT
 | 6=>DfaT6
 | 7=>PlacesT7
 | 8=>AtT8
 | 9=>ActT9
 | 10=>TableT10
 | 11=>ItemT11
 | 12=>StateT12
 | 13=>MakerT13
 | 14=>MachineT14
 | 15=>WideT15
 | 16=>ReaderT16
 | 17=>NodeT17
 | 18=>SpanT18
 | 19=>WordT19
 | 20=>ChartT20
 | _=>Unit
def syW:Nat→Nat
 | 0=>6
 | 1=>8
 | 2=>2
 | 3=>3
 | 4=>7
 | 5=>0
 | 6=>258
 | 7=>5
 | 8=>2
 | 9=>2
 | 10=>2
 | 11=>3
 | 12=>3
 | 13=>11
 | 14=>3
 | 15=>11
 | 16=>4
 | 17=>5
 | 18=>3
 | 19=>3
 | 20=>9
 | _=>0
@[reducible] def syF:Nat→List Code
 | 0=> [.int .i64,.arr 4 .u64,.list (.st 0)]
 | 1=> [.str,.st 0,.bool]
 | 2=> [.str,.str]
 | 3=> [.int .i64,.list (.int .i64),.int .i64]
 | 4=> [.list (.st 1),.list .str,.list (.st 2),.list (.st 3),.list (.arr 4 .u64),.list (.arr 4 .u64),.int .i64]
 | 5=> []
 | 6=> [.arr 256 .u8,.list (.list (.int .i64)),.list (.int .i64)]
 | 7=> [.list (.arr 4 .u64),.list (.int .i64),.list (.int .i64),.list (.list (.int .i64)),.bool]
 | 8=> [.int .i64,.int .i64]
 | 9=> [.int .i64,.int .i64]
 | 10=> [.list (.list (.st 9)),.list (.list (.int .i64))]
 | 11=> [.int .i64,.int .i64,.int .i64]
 | 12=> [.int .i64,.int .i64,.int .i64]
 | 13=> [.st 4,.list .str,.int .i64,.bool,.bool]
 | 14=> [.list (.st 7),.list (.list (.st 8)),.list (.int .u8)]
 | 15=> [.st 4,.list (.st 7),.list .bool,.list .bool,.list (.list .bool)]
 | 16=> [.str,.int .i64,.int .i64,.int .i64]
 | 17=> [.int .i64,.int .i64,.int .i64,.int .i64,.int .i64]
 | 18=> [.int .i64,.int .i64,.list (.st 17)]
 | 19=> [.int .i64,.int .i64,.int .i64]
 | 20=> [.st 4,.list (.st 19),.list (.list (.list .bool))]
 | _=> []
def syD: ∀i,SyS i→List D
 | 0,v=>RxT.D v
 | 1,v=>TokTD v
 | 2,v=>ScTD v
 | 3,v=>RuTD v
 | 4,v=>GrTD v
 | 5,v=>PkTD v
 | 6,v=>DfaT6D v
 | 7,v=>PlacesT7D v
 | 8,v=>AtT8D v
 | 9,v=>ActT9D v
 | 10,v=>TableT10D v
 | 11,v=>ItemT11D v
 | 12,v=>StateT12D v
 | 13,v=>MakerT13D v
 | 14,v=>MachineT14D v
 | 15,v=>WideT15D v
 | 16,v=>ReaderT16D v
 | 17,v=>NodeT17D v
 | 18,v=>SpanT18D v
 | 19,v=>WordT19D v
 | 20,v=>ChartT20D v
 | _+21,_=> []
def sySplit: ∀i,SyS i→Flds SyS (syF i)
 | 0,v=>(v.k,v.s,v.a,())
 | 1,v=>v
 | 2,v=>v
 | 3,v=>v
 | 4,v=>v
 | 5,v=>v
 | 6,v=>v
 | 7,v=>v
 | 8,v=>v
 | 9,v=>v
 | 10,v=>v
 | 11,v=>v
 | 12,v=>v
 | 13,v=>v
 | 14,v=>v
 | 15,v=>v
 | 16,v=>v
 | 17,v=>v
 | 18,v=>v
 | 19,v=>v
 | 20,v=>v
 | _+21,_=>()
def syJoin: ∀i,Flds SyS (syF i)→SyS i
 | 0,p=> .mk p.1 p.2.1 p.2.2.1
 | 1,v=>v
 | 2,v=>v
 | 3,v=>v
 | 4,v=>v
 | 5,v=>v
 | 6,v=>v
 | 7,v=>v
 | 8,v=>v
 | 9,v=>v
 | 10,v=>v
 | 11,v=>v
 | 12,v=>v
 | 13,v=>v
 | 14,v=>v
 | 15,v=>v
 | 16,v=>v
 | 17,v=>v
 | 18,v=>v
 | 19,v=>v
 | 20,v=>v
 | _+21,_=>()
theorem RxT.len (v:RxT):v.D.length=6:=by
 obtain ⟨k,s,a⟩:=v
 simp [RxT.D,s.2]
theorem RxT.cell (v:RxT): ∀d∈v.D,cellD d=true:=by
 obtain ⟨k,s,a⟩:=v
 intro d hd
 simp only [RxT.D,List.mem_cons,List.mem_append,List.mem_map,List.not_mem_nil,or_false] at hd
 rcases hd with rfl | ⟨_,_,rfl⟩ | rfl<;>rfl
theorem TokTl (v:TokT):(TokTD v).length=8:=by simp [TokTD,RxTD,RxT.len]
theorem TokTc (v:TokT): ∀d∈TokTD v,cellD d=true:=by
 intro d hd
 simp only [TokTD,List.mem_append,List.mem_cons,List.mem_map,List.not_mem_nil,or_false] at hd
 rcases hd with rfl | h | rfl
 ·rfl
 ·exact RxT.cell _ d h
 ·rfl
theorem ScTl (v:ScT):(ScTD v).length=2:=by simp [ScTD,RxTD,RxT.len]
theorem ScTc (v:ScT): ∀d∈ScTD v,cellD d=true:=by
 intro d hd
 simp only [ScTD,List.mem_append,List.mem_cons,List.mem_map,List.not_mem_nil,or_false] at hd
 rcases hd with rfl | rfl
 ·rfl
 ·rfl
theorem RuTl (v:RuT):(RuTD v).length=3:=by simp [RuTD,RxTD,RxT.len]
theorem RuTc (v:RuT): ∀d∈RuTD v,cellD d=true:=by
 intro d hd
 simp only [RuTD,List.mem_append,List.mem_cons,List.mem_map,List.not_mem_nil,or_false] at hd
 rcases hd with rfl | rfl | rfl
 ·rfl
 ·rfl
 ·rfl
theorem GrTl (v:GrT):(GrTD v).length=7:=by simp [GrTD,RxTD,RxT.len]
theorem GrTc (v:GrT): ∀d∈GrTD v,cellD d=true:=by
 intro d hd
 simp only [GrTD,List.mem_append,List.mem_cons,List.mem_map,List.not_mem_nil,or_false] at hd
 rcases hd with rfl | rfl | rfl | rfl | rfl | rfl | rfl
 ·rfl
 ·rfl
 ·rfl
 ·rfl
 ·rfl
 ·rfl
 ·rfl
theorem PkTl (v:PkT):(PkTD v).length=0:=by simp [PkTD,RxTD,RxT.len]
theorem PkTc (v:PkT): ∀d∈PkTD v,cellD d=true:=by
 intro d hd
 cases hd
theorem DfaT6l (v:DfaT6):(DfaT6D v).length=258:=by simp [DfaT6D,RxTD,RxT.len,v.1.2]
theorem DfaT6c (v:DfaT6): ∀d∈DfaT6D v,cellD d=true:=by
 intro d hd
 simp only [DfaT6D,List.mem_append,List.mem_cons,List.mem_map,List.not_mem_nil,or_false] at hd
 rcases hd with ⟨_,_,rfl⟩ | rfl | rfl
 ·rfl
 ·rfl
 ·rfl
theorem PlacesT7l (v:PlacesT7):(PlacesT7D v).length=5:=by simp [PlacesT7D,RxTD,RxT.len]
theorem PlacesT7c (v:PlacesT7): ∀d∈PlacesT7D v,cellD d=true:=by
 intro d hd
 simp only [PlacesT7D,List.mem_append,List.mem_cons,List.mem_map,List.not_mem_nil,or_false] at hd
 rcases hd with rfl | rfl | rfl | rfl | rfl
 ·rfl
 ·rfl
 ·rfl
 ·rfl
 ·rfl
theorem AtT8l (v:AtT8):(AtT8D v).length=2:=by simp [AtT8D,RxTD,RxT.len]
theorem AtT8c (v:AtT8): ∀d∈AtT8D v,cellD d=true:=by
 intro d hd
 simp only [AtT8D,List.mem_append,List.mem_cons,List.mem_map,List.not_mem_nil,or_false] at hd
 rcases hd with rfl | rfl
 ·rfl
 ·rfl
theorem ActT9l (v:ActT9):(ActT9D v).length=2:=by simp [ActT9D,RxTD,RxT.len]
theorem ActT9c (v:ActT9): ∀d∈ActT9D v,cellD d=true:=by
 intro d hd
 simp only [ActT9D,List.mem_append,List.mem_cons,List.mem_map,List.not_mem_nil,or_false] at hd
 rcases hd with rfl | rfl
 ·rfl
 ·rfl
theorem TableT10l (v:TableT10):(TableT10D v).length=2:=by simp [TableT10D,RxTD,RxT.len]
theorem TableT10c (v:TableT10): ∀d∈TableT10D v,cellD d=true:=by
 intro d hd
 simp only [TableT10D,List.mem_append,List.mem_cons,List.mem_map,List.not_mem_nil,or_false] at hd
 rcases hd with rfl | rfl
 ·rfl
 ·rfl
theorem ItemT11l (v:ItemT11):(ItemT11D v).length=3:=by simp [ItemT11D,RxTD,RxT.len]
theorem ItemT11c (v:ItemT11): ∀d∈ItemT11D v,cellD d=true:=by
 intro d hd
 simp only [ItemT11D,List.mem_append,List.mem_cons,List.mem_map,List.not_mem_nil,or_false] at hd
 rcases hd with rfl | rfl | rfl
 ·rfl
 ·rfl
 ·rfl
theorem StateT12l (v:StateT12):(StateT12D v).length=3:=by simp [StateT12D,RxTD,RxT.len]
theorem StateT12c (v:StateT12): ∀d∈StateT12D v,cellD d=true:=by
 intro d hd
 simp only [StateT12D,List.mem_append,List.mem_cons,List.mem_map,List.not_mem_nil,or_false] at hd
 rcases hd with rfl | rfl | rfl
 ·rfl
 ·rfl
 ·rfl
theorem MakerT13l (v:MakerT13):(MakerT13D v).length=11:=by simp [MakerT13D,RxTD,RxT.len,GrTl]
theorem MakerT13c (v:MakerT13): ∀d∈MakerT13D v,cellD d=true:=by
 intro d hd
 simp only [MakerT13D,List.mem_append,List.mem_cons,List.mem_map,List.not_mem_nil,or_false] at hd
 rcases hd with h | rfl | rfl | rfl | rfl
 ·exact GrTc _ d h
 ·rfl
 ·rfl
 ·rfl
 ·rfl
theorem MachineT14l (v:MachineT14):(MachineT14D v).length=3:=by simp [MachineT14D,RxTD,RxT.len]
theorem MachineT14c (v:MachineT14): ∀d∈MachineT14D v,cellD d=true:=by
 intro d hd
 simp only [MachineT14D,List.mem_append,List.mem_cons,List.mem_map,List.not_mem_nil,or_false] at hd
 rcases hd with rfl | rfl | rfl
 ·rfl
 ·rfl
 ·rfl
theorem WideT15l (v:WideT15):(WideT15D v).length=11:=by simp [WideT15D,RxTD,RxT.len,GrTl]
theorem WideT15c (v:WideT15): ∀d∈WideT15D v,cellD d=true:=by
 intro d hd
 simp only [WideT15D,List.mem_append,List.mem_cons,List.mem_map,List.not_mem_nil,or_false] at hd
 rcases hd with h | rfl | rfl | rfl | rfl
 ·exact GrTc _ d h
 ·rfl
 ·rfl
 ·rfl
 ·rfl
theorem ReaderT16l (v:ReaderT16):(ReaderT16D v).length=4:=by simp [ReaderT16D,RxTD,RxT.len]
theorem ReaderT16c (v:ReaderT16): ∀d∈ReaderT16D v,cellD d=true:=by
 intro d hd
 simp only [ReaderT16D,List.mem_append,List.mem_cons,List.mem_map,List.not_mem_nil,or_false] at hd
 rcases hd with rfl | rfl | rfl | rfl
 ·rfl
 ·rfl
 ·rfl
 ·rfl
theorem NodeT17l (v:NodeT17):(NodeT17D v).length=5:=by simp [NodeT17D,RxTD,RxT.len]
theorem NodeT17c (v:NodeT17): ∀d∈NodeT17D v,cellD d=true:=by
 intro d hd
 simp only [NodeT17D,List.mem_append,List.mem_cons,List.mem_map,List.not_mem_nil,or_false] at hd
 rcases hd with rfl | rfl | rfl | rfl | rfl
 ·rfl
 ·rfl
 ·rfl
 ·rfl
 ·rfl
theorem SpanT18l (v:SpanT18):(SpanT18D v).length=3:=by simp [SpanT18D,RxTD,RxT.len]
theorem SpanT18c (v:SpanT18): ∀d∈SpanT18D v,cellD d=true:=by
 intro d hd
 simp only [SpanT18D,List.mem_append,List.mem_cons,List.mem_map,List.not_mem_nil,or_false] at hd
 rcases hd with rfl | rfl | rfl
 ·rfl
 ·rfl
 ·rfl
theorem WordT19l (v:WordT19):(WordT19D v).length=3:=by simp [WordT19D,RxTD,RxT.len]
theorem WordT19c (v:WordT19): ∀d∈WordT19D v,cellD d=true:=by
 intro d hd
 simp only [WordT19D,List.mem_append,List.mem_cons,List.mem_map,List.not_mem_nil,or_false] at hd
 rcases hd with rfl | rfl | rfl
 ·rfl
 ·rfl
 ·rfl
theorem ChartT20l (v:ChartT20):(ChartT20D v).length=9:=by simp [ChartT20D,RxTD,RxT.len,GrTl]
theorem ChartT20c (v:ChartT20): ∀d∈ChartT20D v,cellD d=true:=by
 intro d hd
 simp only [ChartT20D,List.mem_append,List.mem_cons,List.mem_map,List.not_mem_nil,or_false] at hd
 rcases hd with h | rfl | rfl
 ·exact GrTc _ d h
 ·rfl
 ·rfl
instance : Sig SyS where
 wd:=syW
 Dd:=syD
 fields:=syF
 split:=sySplit
 join:=syJoin
 sj i f:=by
  match i with
  | 0=>rfl
  | 1=>rfl
  | 2=>rfl
  | 3=>rfl
  | 4=>rfl
  | 5=>rfl
  | 6=>rfl
  | 7=>rfl
  | 8=>rfl
  | 9=>rfl
  | 10=>rfl
  | 11=>rfl
  | 12=>rfl
  | 13=>rfl
  | 14=>rfl
  | 15=>rfl
  | 16=>rfl
  | 17=>rfl
  | 18=>rfl
  | 19=>rfl
  | 20=>rfl
  | _+21=>rfl
 hD i v:=by
  match i,v with
  | 0,.mk k s a=>simp only [syD,RxT.D,RxT.Ds_map,syF,sySplit,encF,encs,wid,syW,List.cons_append,List.nil_append,List.append_nil];rfl
  | 1,v=>rfl
  | 2,v=>rfl
  | 3,v=>rfl
  | 4,v=>rfl
  | 5,v=>rfl
  | 6,v=>rfl
  | 7,v=>rfl
  | 8,v=>rfl
  | 9,v=>rfl
  | 10,v=>rfl
  | 11,v=>rfl
  | 12,v=>rfl
  | 13,v=>rfl
  | 14,v=>rfl
  | 15,v=>rfl
  | 16,v=>rfl
  | 17,v=>rfl
  | 18,v=>rfl
  | 19,v=>rfl
  | 20,v=>rfl
  | _+21,_=>rfl
 hw i:=by
  match i with
  | 0=>rfl
  | 1=>rfl
  | 2=>rfl
  | 3=>rfl
  | 4=>rfl
  | 5=>rfl
  | 6=>rfl
  | 7=>rfl
  | 8=>rfl
  | 9=>rfl
  | 10=>rfl
  | 11=>rfl
  | 12=>rfl
  | 13=>rfl
  | 14=>rfl
  | 15=>rfl
  | 16=>rfl
  | 17=>rfl
  | 18=>rfl
  | 19=>rfl
  | 20=>rfl
  | _+21=>rfl
 hl i v:=by
  match i,v with
  | 0,v=>exact RxT.len v
  | 1,v=>exact TokTl v
  | 2,v=>exact ScTl v
  | 3,v=>exact RuTl v
  | 4,v=>exact GrTl v
  | 5,v=>exact PkTl v
  | 6,v=>exact DfaT6l v
  | 7,v=>exact PlacesT7l v
  | 8,v=>exact AtT8l v
  | 9,v=>exact ActT9l v
  | 10,v=>exact TableT10l v
  | 11,v=>exact ItemT11l v
  | 12,v=>exact StateT12l v
  | 13,v=>exact MakerT13l v
  | 14,v=>exact MachineT14l v
  | 15,v=>exact WideT15l v
  | 16,v=>exact ReaderT16l v
  | 17,v=>exact NodeT17l v
  | 18,v=>exact SpanT18l v
  | 19,v=>exact WordT19l v
  | 20,v=>exact ChartT20l v
  | _+21,_=>rfl
 hc i v:=by
  match i,v with
  | 0,v=>exact RxT.cell v
  | 1,v=>exact TokTc v
  | 2,v=>exact ScTc v
  | 3,v=>exact RuTc v
  | 4,v=>exact GrTc v
  | 5,v=>exact PkTc v
  | 6,v=>exact DfaT6c v
  | 7,v=>exact PlacesT7c v
  | 8,v=>exact AtT8c v
  | 9,v=>exact ActT9c v
  | 10,v=>exact TableT10c v
  | 11,v=>exact ItemT11c v
  | 12,v=>exact StateT12c v
  | 13,v=>exact MakerT13c v
  | 14,v=>exact MachineT14c v
  | 15,v=>exact WideT15c v
  | 16,v=>exact ReaderT16c v
  | 17,v=>exact NodeT17c v
  | 18,v=>exact SpanT18c v
  | 19,v=>exact WordT19c v
  | 20,v=>exact ChartT20c v
  | _+21,_=>intro d hd;cases hd
end Go.Pi
