import Derived.Test.YtmfccopfmddllaaGreatProg
import Derived.Laws.FloatArith
import Derived.WalkKit
import Derived.ProofKit
import Derived.Test.YtmfccopfmddllaaGreatWtN
import Derived.Test.YtmfccopfmddllaaGreatLP
import Derived.Test.YtmfccopfmddllaaGreatLX
set_option linter.all false
namespace Go.Proofs.YtmfccopfmddllaaGreat
open Go.RowKit
theorem zo0 (n:Int)(w:World):(callFunc 79 #[.int .u64 n]).run Tryz.prog w= .ok (.value (.float .f64 n.toNat)) w:=by
 rw [run_callFunc_extern (fn:=Tryz.f79) (e:=Extern.MathFloatBits.float64frombits) Tryz.func79 (by kernel_rfl) (by kernel_rfl) (by kernel_rfl) (by kernel_rfl)];rfl
theorem zqv (b:Nat)(w:World):(callFunc 80 #[.float .f64 b]).run Tryz.prog w= .ok (.value (.int .u64 b)) w:=by
 rw [run_callFunc_extern (fn:=Tryz.f80) (e:=Extern.MathFloatBits.float64bits) Tryz.func80 (by kernel_rfl) (by kernel_rfl) (by kernel_rfl) (by kernel_rfl)];rfl
end Go.Proofs.YtmfccopfmddllaaGreat
namespace Go.Pi
open Go.Proofs
set_option linter.unusedVariables false
set_option maxRecDepth 100000
theorem zqz (f:Nat)(pf':PF)(h:zn f=some pf'): ∃pf,zfq f=some pf∧pf'=JT (jA nqS pf):=by
 obtain ⟨p,h1,h2⟩:=Option.map_eq_some_iff.1 h
 exact ⟨p,h1,h2.symm⟩
theorem zmW: ∀f b,zjy.ext f=some b→jz Tryz.prog f b:=by
 intro f b h;simp only [zjy,zlQ,List.lookup] at h;split at h
 ·rename_i e;injection h with h;subst h;obtain rfl:f=79:=by simpa using e
  simp only [jz,if_true,Bool.false_eq_true,if_false];exact Go.Proofs.YtmfccopfmddllaaGreat.frombits
 split at h
 ·rename_i e;injection h with h;subst h;obtain rfl:f=80:=by simpa using e
  simp only [jz,if_true,Bool.false_eq_true,if_false];exact Go.Proofs.YtmfccopfmddllaaGreat.tobits
 cases h
theorem zqw:zab Tryz.prog fmS zfq:=by
 intro f pf h;obtain ⟨fn,h1,h2⟩:=Option.bind_eq_some_iff.1 h
 exact .inl ⟨fn,h1,zjZ zmW h2⟩
theorem zqy:Tryz.prog.follows .mixedOrders=true:=by kernel_rfl
abbrev zi:= {l:List Int // l.length=4}
abbrev yw:= {l:List Int // l.length=256}
inductive RxT where
 | mk (k:Int) (s:zi) (a:List RxT)
def RxT.k:RxT→Int
 | .mk k _ _=>k
def RxT.s:RxT→zi
 | .mk _ s _=>s
def RxT.a:RxT→List RxT
 | .mk _ _ a=>a
mutual
def RxT.D:RxT→List D
 | .mk k s a=> .int .i64 k::(s.1.map (fun n=>D.int .u64 n) ++ [.lst 6 (RxT.Ds a)])
def RxT.Ds:List RxT→List (List Go.Pi.D)
 | []=> []
 | x::xs=>x.D::RxT.Ds xs
end
theorem RxT.Ds_map: ∀l:List RxT,RxT.Ds l=l.map RxT.D
 | []=>rfl
 | x::xs=>by simp only [RxT.Ds,List.map,RxT.Ds_map xs]
abbrev yr:=(List UInt8)×RxT×Bool×Unit
abbrev ScT:=(List UInt8)×(List UInt8)×Unit
abbrev RuT:=Int×(List (Int))×Int×Unit
abbrev GrT:=(List (yr))×(List (List UInt8))×(List (ScT))×(List (RuT))×(List (zi))×(List (zi))×Int×Unit
abbrev PkT:=(List (Int))×Int×Unit
abbrev qJ:=yw×(List (List (Int)))×(List (Int))×Unit
abbrev zo:=(List (zi))×(List (Int))×(List (Int))×(List (List (Int)))×Bool×Unit
abbrev zS:=Int×Int×Unit
abbrev zaY:=Int×Int×Unit
abbrev jU:=(List (List (zaY)))×(List (List (Int)))×Unit
abbrev za:=Int×Int×Int×Unit
abbrev ja:=Int×Int×Int×Unit
abbrev Je:=GrT×(List (List UInt8))×Int×Bool×Bool×Unit
abbrev zC:=(List (zo))×(List (List (zS)))×(List (Int))×Unit
abbrev qt:=GrT×(List (zo))×(List (Bool))×(List (Bool))×(List (List (Bool)))×Unit
abbrev zK:=(List UInt8)×Int×Int×Int×Unit
abbrev zb:=Int×Int×Int×Int×Int×Unit
abbrev zF:=Int×Int×(List (zb))×Unit
abbrev qX:=Int×Int×Int×Unit
abbrev yh:=GrT×(List (qX))×(List (List (List (Bool))))×Unit
abbrev zaa:=Int×Int×Int×Unit
def j2 (v:RxT):List D:=v.D
def V7 (v:yr):List D:= [.str v.1]++((j2 v.2.1)++([.bool v.2.2.1]++([])))
def zd4 (v:ScT):List D:= [.str v.1]++([.str v.2.1]++([]))
def zd5 (v:RuT):List D:= [.int .i64 v.1]++([.lst 1 (v.2.1.map (fun x=> [.int .i64 x]))]++([.int .i64 v.2.2.1]++([])))
def zaO (v:GrT):List D:= [.lst 8 (v.1.map V7)]++([.lst 1 (v.2.1.map (fun x=> [.str x]))]++([.lst 2 (v.2.2.1.map zd4)]++([.lst 3 (v.2.2.2.1.map zd5)]++([.lst 4 (v.2.2.2.2.1.map (fun x=>(x.1.map fun n=>D.int .u64 n)))]++([.lst 4 (v.2.2.2.2.2.1.map (fun x=>(x.1.map fun n=>D.int .u64 n)))]++([.int .i64 v.2.2.2.2.2.2.1]++([])))))))
def zfb (v:PkT):List D:= [.lst 1 (v.1.map (fun x=> [.int .u8 x]))]++([.int .i64 v.2.1]++([]))
def Vh (v:qJ):List D:=(v.1.1.map fun n=>D.int .u8 n)++([.lst 1 (v.2.1.map (fun x=> [.lst 1 (x.map (fun x=> [.int .i64 x]))]))]++([.lst 1 (v.2.2.1.map (fun x=> [.int .i64 x]))]++([])))
def jh (v:zo):List D:= [.lst 4 (v.1.map (fun x=>(x.1.map fun n=>D.int .u64 n)))]++([.lst 1 (v.2.1.map (fun x=> [.int .i64 x]))]++([.lst 1 (v.2.2.1.map (fun x=> [.int .i64 x]))]++([.lst 1 (v.2.2.2.1.map (fun x=> [.lst 1 (x.map (fun x=> [.int .i64 x]))]))]++([.bool v.2.2.2.2.1]++([])))))
def V8 (v:zS):List D:= [.int .i64 v.1]++([.int .i64 v.2.1]++([]))
def JB (v:zaY):List D:= [.int .i64 v.1]++([.int .i64 v.2.1]++([]))
def ZG (v:jU):List D:= [.lst 1 (v.1.map (fun x=> [.lst 2 (x.map JB)]))]++([.lst 1 (v.2.1.map (fun x=> [.lst 1 (x.map (fun x=> [.int .i64 x]))]))]++([]))
def YH (v:za):List D:= [.int .i64 v.1]++([.int .i64 v.2.1]++([.int .i64 v.2.2.1]++([])))
def ZH (v:ja):List D:= [.int .i64 v.1]++([.int .i64 v.2.1]++([.int .i64 v.2.2.1]++([])))
def ZI (v:Je):List D:=(zaO v.1)++([.lst 1 (v.2.1.map (fun x=> [.str x]))]++([.int .i64 v.2.2.1]++([.bool v.2.2.2.1]++([.bool v.2.2.2.2.1]++([])))))
def ju (v:zC):List D:= [.lst 5 (v.1.map jh)]++([.lst 1 (v.2.1.map (fun x=> [.lst 2 (x.map V8)]))]++([.lst 1 (v.2.2.1.map (fun x=> [.int .u8 x]))]++([])))
def YF (v:qt):List D:=(zaO v.1)++([.lst 5 (v.2.1.map jh)]++([.lst 1 (v.2.2.1.map (fun x=> [.bool x]))]++([.lst 1 (v.2.2.2.1.map (fun x=> [.bool x]))]++([.lst 1 (v.2.2.2.2.1.map (fun x=> [.lst 1 (x.map (fun x=> [.bool x]))]))]++([])))))
def j0 (v:zK):List D:= [.str v.1]++([.int .i64 v.2.1]++([.int .i64 v.2.2.1]++([.int .i64 v.2.2.2.1]++([]))))
def Zx (v:zb):List D:= [.int .i64 v.1]++([.int .i64 v.2.1]++([.int .i64 v.2.2.1]++([.int .i64 v.2.2.2.1]++([.int .i64 v.2.2.2.2.1]++([])))))
def YG (v:zF):List D:= [.int .i64 v.1]++([.int .i64 v.2.1]++([.lst 5 (v.2.2.1.map Zx)]++([])))
def Zw (v:qX):List D:= [.int .i64 v.1]++([.int .i64 v.2.1]++([.int .i64 v.2.2.1]++([])))
def ZJ (v:yh):List D:=(zaO v.1)++([.lst 3 (v.2.1.map Zw)]++([.lst 1 (v.2.2.1.map (fun x=> [.lst 1 (x.map (fun x=> [.lst 1 (x.map (fun x=> [.bool x]))]))]))]++([])))
def QP (v:zaa):List D:= [.int .i64 v.1]++([.int .i64 v.2.1]++([.int .i64 v.2.2.1]++([])))
@[reducible] def SyS:Nat→Type
 | 0=>RxT
 | 1=>yr
 | 2=>ScT
 | 3=>RuT
 | 4=>GrT
 | 5=>PkT
 | 6=>qJ
 | 7=>zo
 | 8=>zS
 | 9=>zaY
 | 10=>jU
 | 11=>za
 | 12=>ja
 | 13=>Je
 | 14=>zC
 | 15=>qt
 | 16=>zK
 | 17=>zb
 | 18=>zF
 | 19=>qX
 | 20=>yh
 | 21=>zaa
 | _=>Unit
def syW:Nat→Nat
 | 0=>6
 | 1=>8
 | 2=>2
 | 3=>3
 | 4=>7
 | 5=>2
 | 6=>258
 | 7=>5
 | 8=>2
 | 9=>2
 | 10=>2
 | 11=>3
 | 12=>3
 | 13=>11
 | 14=>3
 | 15=>11
 | 16=>4
 | 17=>5
 | 18=>3
 | 19=>3
 | 20=>9
 | 21=>3
 | _=>0
@[reducible] def syF:Nat→List ze
 | 0=> [.int .i64,.arr 4 .u64,.list (.st 0)]
 | 1=> [.str,.st 0,.bool]
 | 2=> [.str,.str]
 | 3=> [.int .i64,.list (.int .i64),.int .i64]
 | 4=> [.list (.st 1),.list .str,.list (.st 2),.list (.st 3),.list (.arr 4 .u64),.list (.arr 4 .u64),.int .i64]
 | 5=> [.list (.int .u8),.int .i64]
 | 6=> [.arr 256 .u8,.list (.list (.int .i64)),.list (.int .i64)]
 | 7=> [.list (.arr 4 .u64),.list (.int .i64),.list (.int .i64),.list (.list (.int .i64)),.bool]
 | 8=> [.int .i64,.int .i64]
 | 9=> [.int .i64,.int .i64]
 | 10=> [.list (.list (.st 9)),.list (.list (.int .i64))]
 | 11=> [.int .i64,.int .i64,.int .i64]
 | 12=> [.int .i64,.int .i64,.int .i64]
 | 13=> [.st 4,.list .str,.int .i64,.bool,.bool]
 | 14=> [.list (.st 7),.list (.list (.st 8)),.list (.int .u8)]
 | 15=> [.st 4,.list (.st 7),.list .bool,.list .bool,.list (.list .bool)]
 | 16=> [.str,.int .i64,.int .i64,.int .i64]
 | 17=> [.int .i64,.int .i64,.int .i64,.int .i64,.int .i64]
 | 18=> [.int .i64,.int .i64,.list (.st 17)]
 | 19=> [.int .i64,.int .i64,.int .i64]
 | 20=> [.st 4,.list (.st 19),.list (.list (.list .bool))]
 | 21=> [.int .i64,.int .i64,.int .i64]
 | _=> []
def syD: ∀i,SyS i→List D
 | 0,v=>RxT.D v
 | 1,v=>V7 v
 | 2,v=>zd4 v
 | 3,v=>zd5 v
 | 4,v=>zaO v
 | 5,v=>zfb v
 | 6,v=>Vh v
 | 7,v=>jh v
 | 8,v=>V8 v
 | 9,v=>JB v
 | 10,v=>ZG v
 | 11,v=>YH v
 | 12,v=>ZH v
 | 13,v=>ZI v
 | 14,v=>ju v
 | 15,v=>YF v
 | 16,v=>j0 v
 | 17,v=>Zx v
 | 18,v=>YG v
 | 19,v=>Zw v
 | 20,v=>ZJ v
 | 21,v=>QP v
 | _+22,_=> []
def zdi: ∀i,SyS i→Flds SyS (syF i)
 | 0,v=>(v.k,v.s,v.a,())
 | 1,v=>v
 | 2,v=>v
 | 3,v=>v
 | 4,v=>v
 | 5,v=>v
 | 6,v=>v
 | 7,v=>v
 | 8,v=>v
 | 9,v=>v
 | 10,v=>v
 | 11,v=>v
 | 12,v=>v
 | 13,v=>v
 | 14,v=>v
 | 15,v=>v
 | 16,v=>v
 | 17,v=>v
 | 18,v=>v
 | 19,v=>v
 | 20,v=>v
 | 21,v=>v
 | _+22,_=>()
def zj2: ∀i,Flds SyS (syF i)→SyS i
 | 0,p=> .mk p.1 p.2.1 p.2.2.1
 | 1,v=>v
 | 2,v=>v
 | 3,v=>v
 | 4,v=>v
 | 5,v=>v
 | 6,v=>v
 | 7,v=>v
 | 8,v=>v
 | 9,v=>v
 | 10,v=>v
 | 11,v=>v
 | 12,v=>v
 | 13,v=>v
 | 14,v=>v
 | 15,v=>v
 | 16,v=>v
 | 17,v=>v
 | 18,v=>v
 | 19,v=>v
 | 20,v=>v
 | 21,v=>v
 | _+22,_=>()
theorem RxT.len (v:RxT):v.D.length=6:=by
 obtain ⟨k,s,a⟩:=v
 simp [RxT.D,s.2]
theorem RxT.cell (v:RxT): ∀d∈v.D,yM d=true:=by
 obtain ⟨k,s,a⟩:=v
 intro d hd;simp only [RxT.D,List.mem_cons,List.mem_append,List.mem_map,List.not_mem_nil,or_false] at hd;rcases hd with rfl | ⟨_,_,rfl⟩ | rfl<;>rfl
theorem zoT (v:yr):(V7 v).length=8:=by simp [V7,j2,RxT.len]
theorem zoU (v:yr): ∀d∈V7 v,yM d=true:=by
 intro d hd;simp only [V7,List.mem_append,List.mem_cons,List.mem_map,List.not_mem_nil,or_false] at hd;rcases hd with rfl | h | rfl
 ·rfl
 ·exact RxT.cell _ d h
 ·rfl
theorem zqp (v:ScT):(zd4 v).length=2:=by simp [zd4,j2,RxT.len]
theorem zqq (v:ScT): ∀d∈zd4 v,yM d=true:=by
 intro d hd;simp only [zd4,List.mem_append,List.mem_cons,List.mem_map,List.not_mem_nil,or_false] at hd;rcases hd with rfl | rfl
 ·rfl
 ·rfl
theorem zqr (v:RuT):(zd5 v).length=3:=by simp [zd5,j2,RxT.len]
theorem zqs (v:RuT): ∀d∈zd5 v,yM d=true:=by
 intro d hd;simp only [zd5,List.mem_append,List.mem_cons,List.mem_map,List.not_mem_nil,or_false] at hd;rcases hd with rfl | rfl | rfl
 ·rfl
 ·rfl
 ·rfl
theorem zhq (v:GrT):(zaO v).length=7:=by simp [zaO,j2,RxT.len]
theorem zhr (v:GrT): ∀d∈zaO v,yM d=true:=by
 intro d hd;simp only [zaO,List.mem_append,List.mem_cons,List.mem_map,List.not_mem_nil,or_false] at hd;rcases hd with rfl | rfl | rfl | rfl | rfl | rfl | rfl
 ·rfl
 ·rfl
 ·rfl
 ·rfl
 ·rfl
 ·rfl
 ·rfl
theorem zqt (v:PkT):(zfb v).length=2:=by simp [zfb,j2,RxT.len]
theorem zqu (v:PkT): ∀d∈zfb v,yM d=true:=by
 intro d hd;simp only [zfb,List.mem_append,List.mem_cons,List.mem_map,List.not_mem_nil,or_false] at hd;rcases hd with rfl | rfl
 ·rfl
 ·rfl
theorem zlh (v:qJ):(Vh v).length=258:=by simp [Vh,j2,RxT.len,v.1.2]
theorem zli (v:qJ): ∀d∈Vh v,yM d=true:=by
 intro d hd;simp only [Vh,List.mem_append,List.mem_cons,List.mem_map,List.not_mem_nil,or_false] at hd;rcases hd with ⟨_,_,rfl⟩ | rfl | rfl
 ·rfl
 ·rfl
 ·rfl
theorem zeR (v:zo):(jh v).length=5:=by simp [jh,j2,RxT.len]
theorem zeS (v:zo): ∀d∈jh v,yM d=true:=by
 intro d hd;simp only [jh,List.mem_append,List.mem_cons,List.mem_map,List.not_mem_nil,or_false] at hd;rcases hd with rfl | rfl | rfl | rfl | rfl
 ·rfl
 ·rfl
 ·rfl
 ·rfl
 ·rfl
theorem zoY (v:zS):(V8 v).length=2:=by simp [V8,j2,RxT.len]
theorem zoZ (v:zS): ∀d∈V8 v,yM d=true:=by
 intro d hd;simp only [V8,List.mem_append,List.mem_cons,List.mem_map,List.not_mem_nil,or_false] at hd;rcases hd with rfl | rfl
 ·rfl
 ·rfl
theorem zlj (v:zaY):(JB v).length=2:=by simp [JB,j2,RxT.len]
theorem zlk (v:zaY): ∀d∈JB v,yM d=true:=by
 intro d hd;simp only [JB,List.mem_append,List.mem_cons,List.mem_map,List.not_mem_nil,or_false] at hd;rcases hd with rfl | rfl
 ·rfl
 ·rfl
theorem zeN (v:jU):(ZG v).length=2:=by simp [ZG,j2,RxT.len]
theorem zeO (v:jU): ∀d∈ZG v,yM d=true:=by
 intro d hd;simp only [ZG,List.mem_append,List.mem_cons,List.mem_map,List.not_mem_nil,or_false] at hd;rcases hd with rfl | rfl
 ·rfl
 ·rfl
theorem zg8 (v:za):(YH v).length=3:=by simp [YH,j2,RxT.len]
theorem zg9 (v:za): ∀d∈YH v,yM d=true:=by
 intro d hd;simp only [YH,List.mem_append,List.mem_cons,List.mem_map,List.not_mem_nil,or_false] at hd;rcases hd with rfl | rfl | rfl
 ·rfl
 ·rfl
 ·rfl
theorem zeP (v:ja):(ZH v).length=3:=by simp [ZH,j2,RxT.len]
theorem zeQ (v:ja): ∀d∈ZH v,yM d=true:=by
 intro d hd;simp only [ZH,List.mem_append,List.mem_cons,List.mem_map,List.not_mem_nil,or_false] at hd;rcases hd with rfl | rfl | rfl
 ·rfl
 ·rfl
 ·rfl
theorem zeT (v:Je):(ZI v).length=11:=by simp [ZI,j2,RxT.len,zhq]
theorem zeU (v:Je): ∀d∈ZI v,yM d=true:=by
 intro d hd;simp only [ZI,List.mem_append,List.mem_cons,List.mem_map,List.not_mem_nil,or_false] at hd;rcases hd with h | rfl | rfl | rfl | rfl
 ·exact zhr _ d h
 ·rfl
 ·rfl
 ·rfl
 ·rfl
theorem zbS (v:zC):(ju v).length=3:=by simp [ju,j2,RxT.len]
theorem zbT (v:zC): ∀d∈ju v,yM d=true:=by
 intro d hd;simp only [ju,List.mem_append,List.mem_cons,List.mem_map,List.not_mem_nil,or_false] at hd;rcases hd with rfl | rfl | rfl
 ·rfl
 ·rfl
 ·rfl
theorem zg2 (v:qt):(YF v).length=11:=by simp [YF,j2,RxT.len,zhq]
theorem zg3 (v:qt): ∀d∈YF v,yM d=true:=by
 intro d hd;simp only [YF,List.mem_append,List.mem_cons,List.mem_map,List.not_mem_nil,or_false] at hd;rcases hd with h | rfl | rfl | rfl | rfl
 ·exact zhr _ d h
 ·rfl
 ·rfl
 ·rfl
 ·rfl
theorem zcM (v:zK):(j0 v).length=4:=by simp [j0,j2,RxT.len]
theorem zcN (v:zK): ∀d∈j0 v,yM d=true:=by
 intro d hd;simp only [j0,List.mem_append,List.mem_cons,List.mem_map,List.not_mem_nil,or_false] at hd;rcases hd with rfl | rfl | rfl | rfl
 ·rfl
 ·rfl
 ·rfl
 ·rfl
theorem zg6 (v:zb):(Zx v).length=5:=by simp [Zx,j2,RxT.len]
theorem zg7 (v:zb): ∀d∈Zx v,yM d=true:=by
 intro d hd;simp only [Zx,List.mem_append,List.mem_cons,List.mem_map,List.not_mem_nil,or_false] at hd;rcases hd with rfl | rfl | rfl | rfl | rfl
 ·rfl
 ·rfl
 ·rfl
 ·rfl
 ·rfl
theorem zg4 (v:zF):(YG v).length=3:=by simp [YG,j2,RxT.len]
theorem zg5 (v:zF): ∀d∈YG v,yM d=true:=by
 intro d hd;simp only [YG,List.mem_append,List.mem_cons,List.mem_map,List.not_mem_nil,or_false] at hd;rcases hd with rfl | rfl | rfl
 ·rfl
 ·rfl
 ·rfl
theorem zg0 (v:qX):(Zw v).length=3:=by simp [Zw,j2,RxT.len]
theorem zg1 (v:qX): ∀d∈Zw v,yM d=true:=by
 intro d hd;simp only [Zw,List.mem_append,List.mem_cons,List.mem_map,List.not_mem_nil,or_false] at hd;rcases hd with rfl | rfl | rfl
 ·rfl
 ·rfl
 ·rfl
theorem zeV (v:yh):(ZJ v).length=9:=by simp [ZJ,j2,RxT.len,zhq]
theorem zeW (v:yh): ∀d∈ZJ v,yM d=true:=by
 intro d hd;simp only [ZJ,List.mem_append,List.mem_cons,List.mem_map,List.not_mem_nil,or_false] at hd;rcases hd with h | rfl | rfl
 ·exact zhr _ d h
 ·rfl
 ·rfl
theorem zit (v:zaa):(QP v).length=3:=by simp [QP,j2,RxT.len]
theorem ziu (v:zaa): ∀d∈QP v,yM d=true:=by
 intro d hd;simp only [QP,List.mem_append,List.mem_cons,List.mem_map,List.not_mem_nil,or_false] at hd;rcases hd with rfl | rfl | rfl
 ·rfl
 ·rfl
 ·rfl
instance : Sig SyS where
 wd:=syW
 Dd:=syD
 fields:=syF
 split:=zdi
 join:=zj2
 sj i f:=by
  match i with
  | 0=>rfl
  | 1=>rfl
  | 2=>rfl
  | 3=>rfl
  | 4=>rfl
  | 5=>rfl
  | 6=>rfl
  | 7=>rfl
  | 8=>rfl
  | 9=>rfl
  | 10=>rfl
  | 11=>rfl
  | 12=>rfl
  | 13=>rfl
  | 14=>rfl
  | 15=>rfl
  | 16=>rfl
  | 17=>rfl
  | 18=>rfl
  | 19=>rfl
  | 20=>rfl
  | 21=>rfl
  | _+22=>rfl
 hD i v:=by
  match i,v with
  | 0,.mk k s a=>simp only [syD,RxT.D,RxT.Ds_map,syF,zdi,zbY,Y9,wid,syW,List.cons_append,List.nil_append,List.append_nil];rfl
  | 1,v=>rfl
  | 2,v=>rfl
  | 3,v=>rfl
  | 4,v=>rfl
  | 5,v=>rfl
  | 6,v=>rfl
  | 7,v=>rfl
  | 8,v=>rfl
  | 9,v=>rfl
  | 10,v=>rfl
  | 11,v=>rfl
  | 12,v=>rfl
  | 13,v=>rfl
  | 14,v=>rfl
  | 15,v=>rfl
  | 16,v=>rfl
  | 17,v=>rfl
  | 18,v=>rfl
  | 19,v=>rfl
  | 20,v=>rfl
  | 21,v=>rfl
  | _+22,_=>rfl
 hw i:=by
  match i with
  | 0=>rfl
  | 1=>rfl
  | 2=>rfl
  | 3=>rfl
  | 4=>rfl
  | 5=>rfl
  | 6=>rfl
  | 7=>rfl
  | 8=>rfl
  | 9=>rfl
  | 10=>rfl
  | 11=>rfl
  | 12=>rfl
  | 13=>rfl
  | 14=>rfl
  | 15=>rfl
  | 16=>rfl
  | 17=>rfl
  | 18=>rfl
  | 19=>rfl
  | 20=>rfl
  | 21=>rfl
  | _+22=>rfl
 hl i v:=by
  match i,v with
  | 0,v=>exact RxT.len v
  | 1,v=>exact zoT v
  | 2,v=>exact zqp v
  | 3,v=>exact zqr v
  | 4,v=>exact zhq v
  | 5,v=>exact zqt v
  | 6,v=>exact zlh v
  | 7,v=>exact zeR v
  | 8,v=>exact zoY v
  | 9,v=>exact zlj v
  | 10,v=>exact zeN v
  | 11,v=>exact zg8 v
  | 12,v=>exact zeP v
  | 13,v=>exact zeT v
  | 14,v=>exact zbS v
  | 15,v=>exact zg2 v
  | 16,v=>exact zcM v
  | 17,v=>exact zg6 v
  | 18,v=>exact zg4 v
  | 19,v=>exact zg0 v
  | 20,v=>exact zeV v
  | 21,v=>exact zit v
  | _+22,_=>rfl
 hc i v:=by
  match i,v with
  | 0,v=>exact RxT.cell v
  | 1,v=>exact zoU v
  | 2,v=>exact zqq v
  | 3,v=>exact zqs v
  | 4,v=>exact zhr v
  | 5,v=>exact zqu v
  | 6,v=>exact zli v
  | 7,v=>exact zeS v
  | 8,v=>exact zoZ v
  | 9,v=>exact zlk v
  | 10,v=>exact zeO v
  | 11,v=>exact zg9 v
  | 12,v=>exact zeQ v
  | 13,v=>exact zeU v
  | 14,v=>exact zbT v
  | 15,v=>exact zg3 v
  | 16,v=>exact zcN v
  | 17,v=>exact zg7 v
  | 18,v=>exact zg5 v
  | 19,v=>exact zg1 v
  | 20,v=>exact zeW v
  | 21,v=>exact ziu v
  | _+22,_=>intro d hd;cases hd
end Go.Pi
