import Derived.Test.YtmfccopfmddllaaGreatProg
import Derived.Laws.FloatArith
import Derived.WalkKit
import Derived.ProofKit
import Derived.Test.YtmfccopfmddllaaGreatWtN
import Derived.Test.YtmfccopfmddllaaGreatLP
import Derived.Test.YtmfccopfmddllaaGreatLX
set_option linter.all false
namespace Go.Proofs.YtmfccopfmddllaaGreat
open Go.RowKit
theorem frombits (n:Int)(w:World):(callFunc 79 #[.int .u64 n]).run Tryz.prog w= .ok (.value (.float .f64 n.toNat)) w:=by
 rw [run_callFunc_extern (fn:=Tryz.f79) (e:=Extern.MathFloatBits.float64frombits) Tryz.func79 (by kernel_rfl) (by kernel_rfl) (by kernel_rfl) (by kernel_rfl)];rfl
theorem tobits (b:Nat)(w:World):(callFunc 80 #[.float .f64 b]).run Tryz.prog w= .ok (.value (.int .u64 b)) w:=by
 rw [run_callFunc_extern (fn:=Tryz.f80) (e:=Extern.MathFloatBits.float64bits) Tryz.func80 (by kernel_rfl) (by kernel_rfl) (by kernel_rfl) (by kernel_rfl)];rfl
end Go.Proofs.YtmfccopfmddllaaGreat
namespace Go.Pi
open Go.Proofs
set_option linter.unusedVariables false
set_option maxRecDepth 100000
theorem zpO (f:Nat)(pf':PF)(h:prog f=some pf'): ∃pf,zeL f=some pf∧pf'=Jn (jc nqS pf):=by
 obtain ⟨p,h1,h2⟩:=Option.map_eq_some_iff.1 h
 exact ⟨p,h1,h2.symm⟩
theorem zmg: ∀f b,ziT.ext f=some b→jb Tryz.prog f b:=by
 intro f b h;simp only [ziT,zla,List.lookup] at h;split at h
 ·rename_i e;injection h with h;subst h;obtain rfl:f=79:=by simpa using e
  simp only [jb,if_true,Bool.false_eq_true,if_false];exact Go.Proofs.YtmfccopfmddllaaGreat.frombits
 split at h
 ·rename_i e;injection h with h;subst h;obtain rfl:f=80:=by simpa using e
  simp only [jb,if_true,Bool.false_eq_true,if_false];exact Go.Proofs.YtmfccopfmddllaaGreat.tobits
 cases h
theorem linked:UA Tryz.prog fmS zeL:=by
 intro f pf h;obtain ⟨fn,h1,h2⟩:=Option.bind_eq_some_iff.1 h
 exact .inl ⟨fn,h1,zji zmg h2⟩
theorem mixed:Tryz.prog.follows .mixedOrders=true:=by kernel_rfl
abbrev zh:= {l:List Int // l.length=4}
abbrev yg:= {l:List Int // l.length=256}
inductive RxT where
 | mk (k:Int) (s:zh) (a:List RxT)
def RxT.k:RxT→Int
 | .mk k _ _=>k
def RxT.s:RxT→zh
 | .mk _ s _=>s
def RxT.a:RxT→List RxT
 | .mk _ _ a=>a
mutual
def RxT.D:RxT→List D
 | .mk k s a=> .int .i64 k::(s.1.map (fun n=>D.int .u64 n) ++ [.lst 6 (RxT.Ds a)])
def RxT.Ds:List RxT→List (List Go.Pi.D)
 | []=> []
 | x::xs=>x.D::RxT.Ds xs
end
theorem RxT.Ds_map: ∀l:List RxT,RxT.Ds l=l.map RxT.D
 | []=>rfl
 | x::xs=>by simp only [RxT.Ds,List.map,RxT.Ds_map xs]
abbrev yd:=(List UInt8)×RxT×Bool×Unit
abbrev ScT:=(List UInt8)×(List UInt8)×Unit
abbrev RuT:=Int×(List (Int))×Int×Unit
abbrev GrT:=(List (yd))×(List (List UInt8))×(List (ScT))×(List (RuT))×(List (zh))×(List (zh))×Int×Unit
abbrev PkT:=(List (Int))×Int×Unit
abbrev ql:=yg×(List (List (Int)))×(List (Int))×Unit
abbrev zk:=(List (zh))×(List (Int))×(List (Int))×(List (List (Int)))×Bool×Unit
abbrev zI:=Int×Int×Unit
abbrev zan:=Int×Int×Unit
abbrev jw:=(List (List (zan)))×(List (List (Int)))×Unit
abbrev za:=Int×Int×Int×Unit
abbrev qB:=Int×Int×Int×Unit
abbrev QG:=GrT×(List (List UInt8))×Int×Bool×Bool×Unit
abbrev zv:=(List (zk))×(List (List (zI)))×(List (Int))×Unit
abbrev y6:=GrT×(List (zk))×(List (Bool))×(List (Bool))×(List (List (Bool)))×Unit
abbrev zC:=(List UInt8)×Int×Int×Int×Unit
abbrev zb:=Int×Int×Int×Int×Int×Unit
abbrev zx:=Int×Int×(List (zb))×Unit
abbrev qy:=Int×Int×Int×Unit
abbrev zS:=GrT×(List (qy))×(List (List (List (Bool))))×Unit
abbrev Uz:=Int×Int×Int×Unit
def jE (v:RxT):List D:=v.D
def Vu (v:yd):List D:= [.str v.1]++((jE v.2.1)++([.bool v.2.2.1]++([])))
def zds (v:ScT):List D:= [.str v.1]++([.str v.2.1]++([]))
def zdt (v:RuT):List D:= [.int .i64 v.1]++([.lst 1 (v.2.1.map (fun x=> [.int .i64 x]))]++([.int .i64 v.2.2.1]++([])))
def zad (v:GrT):List D:= [.lst 8 (v.1.map Vu)]++([.lst 1 (v.2.1.map (fun x=> [.str x]))]++([.lst 2 (v.2.2.1.map zds)]++([.lst 3 (v.2.2.2.1.map zdt)]++([.lst 4 (v.2.2.2.2.1.map (fun x=>(x.1.map fun n=>D.int .u64 n)))]++([.lst 4 (v.2.2.2.2.2.1.map (fun x=>(x.1.map fun n=>D.int .u64 n)))]++([.int .i64 v.2.2.2.2.2.2.1]++([])))))))
def zex (v:PkT):List D:= [.lst 1 (v.1.map (fun x=> [.int .u8 x]))]++([.int .i64 v.2.1]++([]))
def XI (v:ql):List D:=(v.1.1.map fun n=>D.int .u8 n)++([.lst 1 (v.2.1.map (fun x=> [.lst 1 (x.map (fun x=> [.int .i64 x]))]))]++([.lst 1 (v.2.2.1.map (fun x=> [.int .i64 x]))]++([])))
def qI (v:zk):List D:= [.lst 4 (v.1.map (fun x=>(x.1.map fun n=>D.int .u64 n)))]++([.lst 1 (v.2.1.map (fun x=> [.int .i64 x]))]++([.lst 1 (v.2.2.1.map (fun x=> [.int .i64 x]))]++([.lst 1 (v.2.2.2.1.map (fun x=> [.lst 1 (x.map (fun x=> [.int .i64 x]))]))]++([.bool v.2.2.2.2.1]++([])))))
def Vv (v:zI):List D:= [.int .i64 v.1]++([.int .i64 v.2.1]++([]))
def Q5 (v:zan):List D:= [.int .i64 v.1]++([.int .i64 v.2.1]++([]))
def Ze (v:jw):List D:= [.lst 1 (v.1.map (fun x=> [.lst 2 (x.map Q5)]))]++([.lst 1 (v.2.1.map (fun x=> [.lst 1 (x.map (fun x=> [.int .i64 x]))]))]++([]))
def Ye (v:za):List D:= [.int .i64 v.1]++([.int .i64 v.2.1]++([.int .i64 v.2.2.1]++([])))
def Zf (v:qB):List D:= [.int .i64 v.1]++([.int .i64 v.2.1]++([.int .i64 v.2.2.1]++([])))
def Zg (v:QG):List D:=(zad v.1)++([.lst 1 (v.2.1.map (fun x=> [.str x]))]++([.int .i64 v.2.2.1]++([.bool v.2.2.2.1]++([.bool v.2.2.2.2.1]++([])))))
def qW (v:zv):List D:= [.lst 5 (v.1.map qI)]++([.lst 1 (v.2.1.map (fun x=> [.lst 2 (x.map Vv)]))]++([.lst 1 (v.2.2.1.map (fun x=> [.int .u8 x]))]++([])))
def Yc (v:y6):List D:=(zad v.1)++([.lst 5 (v.2.1.map qI)]++([.lst 1 (v.2.2.1.map (fun x=> [.bool x]))]++([.lst 1 (v.2.2.2.1.map (fun x=> [.bool x]))]++([.lst 1 (v.2.2.2.2.1.map (fun x=> [.lst 1 (x.map (fun x=> [.bool x]))]))]++([])))))
def jC (v:zC):List D:= [.str v.1]++([.int .i64 v.2.1]++([.int .i64 v.2.2.1]++([.int .i64 v.2.2.2.1]++([]))))
def j6 (v:zb):List D:= [.int .i64 v.1]++([.int .i64 v.2.1]++([.int .i64 v.2.2.1]++([.int .i64 v.2.2.2.1]++([.int .i64 v.2.2.2.2.1]++([])))))
def Yd (v:zx):List D:= [.int .i64 v.1]++([.int .i64 v.2.1]++([.lst 5 (v.2.2.1.map j6)]++([])))
def j5 (v:qy):List D:= [.int .i64 v.1]++([.int .i64 v.2.1]++([.int .i64 v.2.2.1]++([])))
def Zh (v:zS):List D:=(zad v.1)++([.lst 3 (v.2.1.map j5)]++([.lst 1 (v.2.2.1.map (fun x=> [.lst 1 (x.map (fun x=> [.lst 1 (x.map (fun x=> [.bool x]))]))]))]++([])))
def Qj (v:Uz):List D:= [.int .i64 v.1]++([.int .i64 v.2.1]++([.int .i64 v.2.2.1]++([])))
@[reducible] def SyS:Nat→Type
 | 0=>RxT
 | 1=>yd
 | 2=>ScT
 | 3=>RuT
 | 4=>GrT
 | 5=>PkT
 | 6=>ql
 | 7=>zk
 | 8=>zI
 | 9=>zan
 | 10=>jw
 | 11=>za
 | 12=>qB
 | 13=>QG
 | 14=>zv
 | 15=>y6
 | 16=>zC
 | 17=>zb
 | 18=>zx
 | 19=>qy
 | 20=>zS
 | 21=>Uz
 | _=>Unit
def syW:Nat→Nat
 | 0=>6
 | 1=>8
 | 2=>2
 | 3=>3
 | 4=>7
 | 5=>2
 | 6=>258
 | 7=>5
 | 8=>2
 | 9=>2
 | 10=>2
 | 11=>3
 | 12=>3
 | 13=>11
 | 14=>3
 | 15=>11
 | 16=>4
 | 17=>5
 | 18=>3
 | 19=>3
 | 20=>9
 | 21=>3
 | _=>0
@[reducible] def syF:Nat→List Code
 | 0=> [.int .i64,.arr 4 .u64,.list (.st 0)]
 | 1=> [.str,.st 0,.bool]
 | 2=> [.str,.str]
 | 3=> [.int .i64,.list (.int .i64),.int .i64]
 | 4=> [.list (.st 1),.list .str,.list (.st 2),.list (.st 3),.list (.arr 4 .u64),.list (.arr 4 .u64),.int .i64]
 | 5=> [.list (.int .u8),.int .i64]
 | 6=> [.arr 256 .u8,.list (.list (.int .i64)),.list (.int .i64)]
 | 7=> [.list (.arr 4 .u64),.list (.int .i64),.list (.int .i64),.list (.list (.int .i64)),.bool]
 | 8=> [.int .i64,.int .i64]
 | 9=> [.int .i64,.int .i64]
 | 10=> [.list (.list (.st 9)),.list (.list (.int .i64))]
 | 11=> [.int .i64,.int .i64,.int .i64]
 | 12=> [.int .i64,.int .i64,.int .i64]
 | 13=> [.st 4,.list .str,.int .i64,.bool,.bool]
 | 14=> [.list (.st 7),.list (.list (.st 8)),.list (.int .u8)]
 | 15=> [.st 4,.list (.st 7),.list .bool,.list .bool,.list (.list .bool)]
 | 16=> [.str,.int .i64,.int .i64,.int .i64]
 | 17=> [.int .i64,.int .i64,.int .i64,.int .i64,.int .i64]
 | 18=> [.int .i64,.int .i64,.list (.st 17)]
 | 19=> [.int .i64,.int .i64,.int .i64]
 | 20=> [.st 4,.list (.st 19),.list (.list (.list .bool))]
 | 21=> [.int .i64,.int .i64,.int .i64]
 | _=> []
def syD: ∀i,SyS i→List D
 | 0,v=>RxT.D v
 | 1,v=>Vu v
 | 2,v=>zds v
 | 3,v=>zdt v
 | 4,v=>zad v
 | 5,v=>zex v
 | 6,v=>XI v
 | 7,v=>qI v
 | 8,v=>Vv v
 | 9,v=>Q5 v
 | 10,v=>Ze v
 | 11,v=>Ye v
 | 12,v=>Zf v
 | 13,v=>Zg v
 | 14,v=>qW v
 | 15,v=>Yc v
 | 16,v=>jC v
 | 17,v=>j6 v
 | 18,v=>Yd v
 | 19,v=>j5 v
 | 20,v=>Zh v
 | 21,v=>Qj v
 | _+22,_=> []
def zcG: ∀i,SyS i→Flds SyS (syF i)
 | 0,v=>(v.k,v.s,v.a,())
 | 1,v=>v
 | 2,v=>v
 | 3,v=>v
 | 4,v=>v
 | 5,v=>v
 | 6,v=>v
 | 7,v=>v
 | 8,v=>v
 | 9,v=>v
 | 10,v=>v
 | 11,v=>v
 | 12,v=>v
 | 13,v=>v
 | 14,v=>v
 | 15,v=>v
 | 16,v=>v
 | 17,v=>v
 | 18,v=>v
 | 19,v=>v
 | 20,v=>v
 | 21,v=>v
 | _+22,_=>()
def zjl: ∀i,Flds SyS (syF i)→SyS i
 | 0,p=> .mk p.1 p.2.1 p.2.2.1
 | 1,v=>v
 | 2,v=>v
 | 3,v=>v
 | 4,v=>v
 | 5,v=>v
 | 6,v=>v
 | 7,v=>v
 | 8,v=>v
 | 9,v=>v
 | 10,v=>v
 | 11,v=>v
 | 12,v=>v
 | 13,v=>v
 | 14,v=>v
 | 15,v=>v
 | 16,v=>v
 | 17,v=>v
 | 18,v=>v
 | 19,v=>v
 | 20,v=>v
 | 21,v=>v
 | _+22,_=>()
theorem RxT.len (v:RxT):v.D.length=6:=by
 obtain ⟨k,s,a⟩:=v
 simp [RxT.D,s.2]
theorem RxT.cell (v:RxT): ∀d∈v.D,yw d=true:=by
 obtain ⟨k,s,a⟩:=v
 intro d hd;simp only [RxT.D,List.mem_cons,List.mem_append,List.mem_map,List.not_mem_nil,or_false] at hd;rcases hd with rfl | ⟨_,_,rfl⟩ | rfl<;>rfl
theorem zod (v:yd):(Vu v).length=8:=by simp [Vu,jE,RxT.len]
theorem zoe (v:yd): ∀d∈Vu v,yw d=true:=by
 intro d hd;simp only [Vu,List.mem_append,List.mem_cons,List.mem_map,List.not_mem_nil,or_false] at hd;rcases hd with rfl | h | rfl
 ·rfl
 ·exact RxT.cell _ d h
 ·rfl
theorem zpI (v:ScT):(zds v).length=2:=by simp [zds,jE,RxT.len]
theorem zpJ (v:ScT): ∀d∈zds v,yw d=true:=by
 intro d hd;simp only [zds,List.mem_append,List.mem_cons,List.mem_map,List.not_mem_nil,or_false] at hd;rcases hd with rfl | rfl
 ·rfl
 ·rfl
theorem zpK (v:RuT):(zdt v).length=3:=by simp [zdt,jE,RxT.len]
theorem zpL (v:RuT): ∀d∈zdt v,yw d=true:=by
 intro d hd;simp only [zdt,List.mem_append,List.mem_cons,List.mem_map,List.not_mem_nil,or_false] at hd;rcases hd with rfl | rfl | rfl
 ·rfl
 ·rfl
 ·rfl
theorem zgL (v:GrT):(zad v).length=7:=by simp [zad,jE,RxT.len]
theorem zgM (v:GrT): ∀d∈zad v,yw d=true:=by
 intro d hd;simp only [zad,List.mem_append,List.mem_cons,List.mem_map,List.not_mem_nil,or_false] at hd;rcases hd with rfl | rfl | rfl | rfl | rfl | rfl | rfl
 ·rfl
 ·rfl
 ·rfl
 ·rfl
 ·rfl
 ·rfl
 ·rfl
theorem zpM (v:PkT):(zex v).length=2:=by simp [zex,jE,RxT.len]
theorem zpN (v:PkT): ∀d∈zex v,yw d=true:=by
 intro d hd;simp only [zex,List.mem_append,List.mem_cons,List.mem_map,List.not_mem_nil,or_false] at hd;rcases hd with rfl | rfl
 ·rfl
 ·rfl
theorem zkB (v:ql):(XI v).length=258:=by simp [XI,jE,RxT.len,v.1.2]
theorem zkC (v:ql): ∀d∈XI v,yw d=true:=by
 intro d hd;simp only [XI,List.mem_append,List.mem_cons,List.mem_map,List.not_mem_nil,or_false] at hd;rcases hd with ⟨_,_,rfl⟩ | rfl | rfl
 ·rfl
 ·rfl
 ·rfl
theorem zee (v:zk):(qI v).length=5:=by simp [qI,jE,RxT.len]
theorem zef (v:zk): ∀d∈qI v,yw d=true:=by
 intro d hd;simp only [qI,List.mem_append,List.mem_cons,List.mem_map,List.not_mem_nil,or_false] at hd;rcases hd with rfl | rfl | rfl | rfl | rfl
 ·rfl
 ·rfl
 ·rfl
 ·rfl
 ·rfl
theorem zoi (v:zI):(Vv v).length=2:=by simp [Vv,jE,RxT.len]
theorem zoj (v:zI): ∀d∈Vv v,yw d=true:=by
 intro d hd;simp only [Vv,List.mem_append,List.mem_cons,List.mem_map,List.not_mem_nil,or_false] at hd;rcases hd with rfl | rfl
 ·rfl
 ·rfl
theorem zkD (v:zan):(Q5 v).length=2:=by simp [Q5,jE,RxT.len]
theorem zkE (v:zan): ∀d∈Q5 v,yw d=true:=by
 intro d hd;simp only [Q5,List.mem_append,List.mem_cons,List.mem_map,List.not_mem_nil,or_false] at hd;rcases hd with rfl | rfl
 ·rfl
 ·rfl
theorem zea (v:jw):(Ze v).length=2:=by simp [Ze,jE,RxT.len]
theorem zeb (v:jw): ∀d∈Ze v,yw d=true:=by
 intro d hd;simp only [Ze,List.mem_append,List.mem_cons,List.mem_map,List.not_mem_nil,or_false] at hd;rcases hd with rfl | rfl
 ·rfl
 ·rfl
theorem zgt (v:za):(Ye v).length=3:=by simp [Ye,jE,RxT.len]
theorem zgu (v:za): ∀d∈Ye v,yw d=true:=by
 intro d hd;simp only [Ye,List.mem_append,List.mem_cons,List.mem_map,List.not_mem_nil,or_false] at hd;rcases hd with rfl | rfl | rfl
 ·rfl
 ·rfl
 ·rfl
theorem zec (v:qB):(Zf v).length=3:=by simp [Zf,jE,RxT.len]
theorem zed (v:qB): ∀d∈Zf v,yw d=true:=by
 intro d hd;simp only [Zf,List.mem_append,List.mem_cons,List.mem_map,List.not_mem_nil,or_false] at hd;rcases hd with rfl | rfl | rfl
 ·rfl
 ·rfl
 ·rfl
theorem zeg (v:QG):(Zg v).length=11:=by simp [Zg,jE,RxT.len,zgL]
theorem zeh (v:QG): ∀d∈Zg v,yw d=true:=by
 intro d hd;simp only [Zg,List.mem_append,List.mem_cons,List.mem_map,List.not_mem_nil,or_false] at hd;rcases hd with h | rfl | rfl | rfl | rfl
 ·exact zgM _ d h
 ·rfl
 ·rfl
 ·rfl
 ·rfl
theorem zbh (v:zv):(qW v).length=3:=by simp [qW,jE,RxT.len]
theorem zbi (v:zv): ∀d∈qW v,yw d=true:=by
 intro d hd;simp only [qW,List.mem_append,List.mem_cons,List.mem_map,List.not_mem_nil,or_false] at hd;rcases hd with rfl | rfl | rfl
 ·rfl
 ·rfl
 ·rfl
theorem zgn (v:y6):(Yc v).length=11:=by simp [Yc,jE,RxT.len,zgL]
theorem zgo (v:y6): ∀d∈Yc v,yw d=true:=by
 intro d hd;simp only [Yc,List.mem_append,List.mem_cons,List.mem_map,List.not_mem_nil,or_false] at hd;rcases hd with h | rfl | rfl | rfl | rfl
 ·exact zgM _ d h
 ·rfl
 ·rfl
 ·rfl
 ·rfl
theorem zca (v:zC):(jC v).length=4:=by simp [jC,jE,RxT.len]
theorem zcb (v:zC): ∀d∈jC v,yw d=true:=by
 intro d hd;simp only [jC,List.mem_append,List.mem_cons,List.mem_map,List.not_mem_nil,or_false] at hd;rcases hd with rfl | rfl | rfl | rfl
 ·rfl
 ·rfl
 ·rfl
 ·rfl
theorem zgr (v:zb):(j6 v).length=5:=by simp [j6,jE,RxT.len]
theorem zgs (v:zb): ∀d∈j6 v,yw d=true:=by
 intro d hd;simp only [j6,List.mem_append,List.mem_cons,List.mem_map,List.not_mem_nil,or_false] at hd;rcases hd with rfl | rfl | rfl | rfl | rfl
 ·rfl
 ·rfl
 ·rfl
 ·rfl
 ·rfl
theorem zgp (v:zx):(Yd v).length=3:=by simp [Yd,jE,RxT.len]
theorem zgq (v:zx): ∀d∈Yd v,yw d=true:=by
 intro d hd;simp only [Yd,List.mem_append,List.mem_cons,List.mem_map,List.not_mem_nil,or_false] at hd;rcases hd with rfl | rfl | rfl
 ·rfl
 ·rfl
 ·rfl
theorem zgl (v:qy):(j5 v).length=3:=by simp [j5,jE,RxT.len]
theorem zgm (v:qy): ∀d∈j5 v,yw d=true:=by
 intro d hd;simp only [j5,List.mem_append,List.mem_cons,List.mem_map,List.not_mem_nil,or_false] at hd;rcases hd with rfl | rfl | rfl
 ·rfl
 ·rfl
 ·rfl
theorem zei (v:zS):(Zh v).length=9:=by simp [Zh,jE,RxT.len,zgL]
theorem zej (v:zS): ∀d∈Zh v,yw d=true:=by
 intro d hd;simp only [Zh,List.mem_append,List.mem_cons,List.mem_map,List.not_mem_nil,or_false] at hd;rcases hd with h | rfl | rfl
 ·exact zgM _ d h
 ·rfl
 ·rfl
theorem zhO (v:Uz):(Qj v).length=3:=by simp [Qj,jE,RxT.len]
theorem zhP (v:Uz): ∀d∈Qj v,yw d=true:=by
 intro d hd;simp only [Qj,List.mem_append,List.mem_cons,List.mem_map,List.not_mem_nil,or_false] at hd;rcases hd with rfl | rfl | rfl
 ·rfl
 ·rfl
 ·rfl
instance : Sig SyS where
 wd:=syW
 Dd:=syD
 fields:=syF
 split:=zcG
 join:=zjl
 sj i f:=by
  match i with
  | 0=>rfl
  | 1=>rfl
  | 2=>rfl
  | 3=>rfl
  | 4=>rfl
  | 5=>rfl
  | 6=>rfl
  | 7=>rfl
  | 8=>rfl
  | 9=>rfl
  | 10=>rfl
  | 11=>rfl
  | 12=>rfl
  | 13=>rfl
  | 14=>rfl
  | 15=>rfl
  | 16=>rfl
  | 17=>rfl
  | 18=>rfl
  | 19=>rfl
  | 20=>rfl
  | 21=>rfl
  | _+22=>rfl
 hD i v:=by
  match i,v with
  | 0,.mk k s a=>simp only [syD,RxT.D,RxT.Ds_map,syF,zcG,zbn,YF,wid,syW,List.cons_append,List.nil_append,List.append_nil];rfl
  | 1,v=>rfl
  | 2,v=>rfl
  | 3,v=>rfl
  | 4,v=>rfl
  | 5,v=>rfl
  | 6,v=>rfl
  | 7,v=>rfl
  | 8,v=>rfl
  | 9,v=>rfl
  | 10,v=>rfl
  | 11,v=>rfl
  | 12,v=>rfl
  | 13,v=>rfl
  | 14,v=>rfl
  | 15,v=>rfl
  | 16,v=>rfl
  | 17,v=>rfl
  | 18,v=>rfl
  | 19,v=>rfl
  | 20,v=>rfl
  | 21,v=>rfl
  | _+22,_=>rfl
 hw i:=by
  match i with
  | 0=>rfl
  | 1=>rfl
  | 2=>rfl
  | 3=>rfl
  | 4=>rfl
  | 5=>rfl
  | 6=>rfl
  | 7=>rfl
  | 8=>rfl
  | 9=>rfl
  | 10=>rfl
  | 11=>rfl
  | 12=>rfl
  | 13=>rfl
  | 14=>rfl
  | 15=>rfl
  | 16=>rfl
  | 17=>rfl
  | 18=>rfl
  | 19=>rfl
  | 20=>rfl
  | 21=>rfl
  | _+22=>rfl
 hl i v:=by
  match i,v with
  | 0,v=>exact RxT.len v
  | 1,v=>exact zod v
  | 2,v=>exact zpI v
  | 3,v=>exact zpK v
  | 4,v=>exact zgL v
  | 5,v=>exact zpM v
  | 6,v=>exact zkB v
  | 7,v=>exact zee v
  | 8,v=>exact zoi v
  | 9,v=>exact zkD v
  | 10,v=>exact zea v
  | 11,v=>exact zgt v
  | 12,v=>exact zec v
  | 13,v=>exact zeg v
  | 14,v=>exact zbh v
  | 15,v=>exact zgn v
  | 16,v=>exact zca v
  | 17,v=>exact zgr v
  | 18,v=>exact zgp v
  | 19,v=>exact zgl v
  | 20,v=>exact zei v
  | 21,v=>exact zhO v
  | _+22,_=>rfl
 hc i v:=by
  match i,v with
  | 0,v=>exact RxT.cell v
  | 1,v=>exact zoe v
  | 2,v=>exact zpJ v
  | 3,v=>exact zpL v
  | 4,v=>exact zgM v
  | 5,v=>exact zpN v
  | 6,v=>exact zkC v
  | 7,v=>exact zef v
  | 8,v=>exact zoj v
  | 9,v=>exact zkE v
  | 10,v=>exact zeb v
  | 11,v=>exact zgu v
  | 12,v=>exact zed v
  | 13,v=>exact zeh v
  | 14,v=>exact zbi v
  | 15,v=>exact zgo v
  | 16,v=>exact zcb v
  | 17,v=>exact zgs v
  | 18,v=>exact zgq v
  | 19,v=>exact zgm v
  | 20,v=>exact zej v
  | 21,v=>exact zhP v
  | _+22,_=>intro d hd;cases hd
end Go.Pi
