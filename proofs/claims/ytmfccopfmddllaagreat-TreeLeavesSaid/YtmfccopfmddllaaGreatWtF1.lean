import Derived.Test.YtmfccopfmddllaaGreatWtN
import Derived.Test.YtmfccopfmddllaaGreatWtT
import Derived.Test.YtmfccopfmddllaaGreatLO
import Derived.KernelRfl
set_option linter.all false
namespace Go.Pi
open Z
set_option linter.unusedVariables false
set_option maxRecDepth 100000
abbrev zlu:zo:=⟨[(0,.b (.ptr 1 0)),(1,.b (.one 1 (.list (.int .i64)))),(2,.b (.one 1 (.int .i64)))],[(1,.box (some 0) [.one 1 (.st 4),.one 1 (.list (.st 19)),.whole 2]),(2,.row 1 (.own (.own .bool)))],3,false⟩
abbrev zlt:zo:=⟨[(0,.b (.whole 3))],[(1,.box (some 0) [.one 1 (.st 4),.one 1 (.list (.st 19)),.whole 2]),(2,.row 1 (.own (.own .bool))),(3,.row 1 .bool)],4,false⟩
abbrev zlE:zo:=⟨[(0,.b (.ptr 1 0))],[(1,.box (some 0) [.one 1 (.st 4),.one 1 (.list (.st 19)),.nil])],2,false⟩
abbrev zlD:zo:=⟨[],[(1,.box (some 0) [.one 1 (.st 4),.one 1 (.list (.st 19)),.whole 2]),(2,.row 1 (.own (.own .bool)))],3,false⟩
abbrev zh8:zo:=⟨[(0,.b (.ptr 1 0)),(1,.b (.one 1 (.int .i64))),(2,.b (.one 1 (.int .i64))),(3,.b (.one 1 (.int .i64))),(4,.b (.one 1 (.int .i64))),(5,.b (.one 1 (.int .i64)))],[(1,.box (some 0) [.one 1 (.st 4),.one 1 (.list (.st 19)),.whole 2]),(2,.row 1 (.own (.own .bool)))],3,false⟩
abbrev zh7:zo:=⟨[(0,.b (.whole 3))],[(1,.box (some 0) [.one 1 (.st 4),.one 1 (.list (.st 19)),.whole 2]),(2,.row 1 (.own (.own .bool))),(3,.row 1 (.st 17))],4,false⟩
abbrev zag:zo:=⟨[(0,.b (.ptr 1 0)),(1,.b (.one 1 (.list (.int .i64)))),(2,.b (.one 1 (.int .i64))),(3,.b (.one 1 (.int .i64))),(4,.b (.one 1 (.int .i64))),(5,.b (.one 1 (.int .i64)))],[(1,.box (some 0) [.one 1 (.st 4),.one 1 (.list (.st 19)),.whole 2]),(2,.row 1 (.own (.own .bool)))],3,false⟩
abbrev zaf:zo:=⟨[(0,.b (.whole 3)),(1,.b (.one 1 .bool))],[(1,.box (some 0) [.one 1 (.st 4),.one 1 (.list (.st 19)),.whole 2]),(2,.row 1 (.own (.own .bool))),(3,.row 1 (.st 17))],4,false⟩
abbrev zbl:zo:=⟨[(0,.b (.whole 1))],[(1,.row 1 (.own .bool))],2,false⟩
abbrev zkG:zo:=⟨[(0,.b (.one 1 (.int .i64)))],[],1,false⟩
abbrev zlq:zo:=⟨[(0,.b (.whole 1)),(1,.b (.whole 2))],[(1,.row 1 (.own .bool)),(2,.row 1 (.own .bool))],3,false⟩
abbrev zch:zo:=⟨[(0,.b (.one 1 (.st 0))),(1,.b (.one 1 (.list (.int .u8))))],[],1,false⟩
abbrev zlA:zo:=⟨[(0,.b (.one 4 (.list (.list .bool))))],[],1,true⟩
abbrev zlz:zo:=⟨[(0,.b (.whole 1))],[(1,.row 1 (.own (.int .i64)))],2,true⟩
abbrev zly:zo:=⟨[(0,.b (.whole 1)),(1,.b (.one 1 (.st 12)))],[(1,.row 1 (.st 12))],2,true⟩
abbrev zlx:zo:=⟨[(0,.b (.whole 1))],[(1,.row 1 (.st 12))],2,true⟩
abbrev zlF:zo:=⟨[(0,.b (.ptr 1 0)),(1,.b (.whole 6)),(2,.b (.one 1 (.int .i64))),(3,.b (.one 1 (.arr 4 .u64)))],[(1,.box (some 0) [.one 1 (.st 4),.whole 2,.whole 3,.whole 4,.whole 5]),(2,.row 1 (.st 7)),(3,.row 1 .bool),(4,.row 1 .bool),(5,.row 1 (.own .bool)),(6,.row 1 (.st 12))],7,true⟩
abbrev zeK:zo:=⟨[(0,.b (.whole 6))],[(1,.box (some 0) [.one 1 (.st 4),.whole 2,.whole 3,.whole 4,.whole 5]),(2,.row 1 (.st 7)),(3,.row 1 .bool),(4,.row 1 .bool),(5,.row 1 (.own .bool)),(6,.row 1 (.st 12))],7,true⟩
abbrev zls:zo:=⟨[(0,.b (.ptr 1 0)),(1,.b (.one 1 (.arr 4 .u64)))],[(1,.box (some 0) [.one 1 (.st 4),.whole 2,.whole 3,.whole 4,.whole 5]),(2,.row 1 (.st 7)),(3,.row 1 .bool),(4,.row 1 .bool),(5,.row 1 (.own .bool))],6,true⟩
abbrev zlr:zo:=⟨[(0,.b (.ptr 1 0)),(1,.b (.whole 6)),(2,.b (.one 1 (.arr 4 .u64)))],[(1,.box (some 0) [.one 1 (.st 4),.whole 2,.whole 3,.whole 4,.whole 5]),(2,.row 1 (.st 7)),(3,.row 1 .bool),(4,.row 1 .bool),(5,.row 1 (.own .bool)),(6,.row 1 (.st 12))],7,true⟩
abbrev zlw:zo:=⟨[(0,.b (.one 1 (.st 4)))],[],1,false⟩
abbrev zlv:zo:=⟨[(0,.b (.ptr 1 0))],[(1,.box none [.one 1 (.st 4),.whole 2,.whole 3,.whole 4,.whole 5]),(2,.row 1 (.st 7)),(3,.row 1 .bool),(4,.row 1 .bool),(5,.row 1 (.own .bool))],6,true⟩
abbrev zlH:zo:=⟨[(0,.b (.ptr 1 0))],[(1,.box (some 0) [.whole 2,.whole 3,.nil]),(2,.row 1 (.st 7)),(3,.row 1 (.own (.st 8)))],4,false⟩
abbrev zlG:zo:=⟨[(0,.b (.one 1 (.arr 256 .u8)))],[(1,.box (some 0) [.whole 2,.whole 3,.whole 4]),(2,.row 1 (.st 7)),(3,.row 1 (.own (.st 8))),(4,.row 1 (.int .u8))],5,false⟩
abbrev zlC:zo:=⟨[(0,.b (.ptr 1 0)),(1,.b (.one 4 (.list (.int .i64)))),(2,.b (.one 4 (.list (.int .i64))))],[(1,.box (some 0) [.whole 2,.nil,.nil,.whole 3,.one 1 .bool]),(2,.row 1 (.arr 4 .u64)),(3,.row 4 (.own (.int .i64)))],4,true⟩
abbrev zlB:zo:=⟨[],[(1,.box (some 0) [.whole 2,.nil,.nil,.whole 3,.one 1 .bool]),(2,.row 1 (.arr 4 .u64)),(3,.row 4 (.own (.int .i64)))],4,true⟩
abbrev zcg:zo:=⟨[(0,.b (.ptr 1 0)),(1,.b (.one 1 (.st 0)))],[(1,.box (some 0) [.whole 2,.nil,.nil,.whole 3,.one 1 .bool]),(2,.row 1 (.arr 4 .u64)),(3,.row 4 (.own (.int .i64)))],4,true⟩
abbrev zcf:zo:=⟨[(0,.agg [.nil,.one 4 (.list (.int .i64)),.one 4 (.list (.int .i64)),.nil,.one 1 .bool])],[(1,.box (some 0) [.whole 2,.nil,.nil,.whole 3,.one 1 .bool]),(2,.row 1 (.arr 4 .u64)),(3,.row 4 (.own (.int .i64)))],4,true⟩
abbrev Vo:zo:=⟨[(0,.b (.ptr 1 0)),(1,.b (.one 4 (.list .str)))],[(1,.box (some 0) [.whole 2,.nil,.whole 3,.whole 4,.whole 5,.whole 6,.one 1 (.int .i64),.whole 7,.one 1 (.int .i64),.one 1 .bool,.one 1 .bool]),(2,.row 4 (.st 1)),(3,.row 4 (.st 2)),(4,.row 4 (.st 3)),(5,.row 4 (.arr 4 .u64)),(6,.row 4 (.arr 4 .u64)),(7,.row 4 .str)],8,true⟩
abbrev Vn:zo:=⟨[(0,.b (.one 1 .bool))],[(1,.box (some 0) [.whole 2,.nil,.whole 3,.whole 4,.whole 5,.whole 6,.one 1 (.int .i64),.whole 7,.one 1 (.int .i64),.one 1 .bool,.one 1 .bool]),(2,.row 4 (.st 1)),(3,.row 4 (.st 2)),(4,.row 4 (.st 3)),(5,.row 4 (.arr 4 .u64)),(6,.row 4 (.arr 4 .u64)),(7,.row 4 .str)],8,true⟩
abbrev ZP:= {l:List Int // l.length=2}
noncomputable section
def zgO (k:Nat):zb×Unit→(Option (Bool×Bool×Unit)):=fun (a0,_)=>
 ((bif decide (a0.2.2.1≥(0:Int)) then
   (bif (a0.2.1==(-(1:Int))) then
    some (decide (a0.2.2.1≥(0:Int)),true,())
   else
    (bif (a0.2.2.1==(-(1:Int))) then
     some (decide (a0.2.2.1≥(0:Int)),decide (a0.2.1≥(0:Int)),())
    else
     some (decide (a0.2.2.1≥(0:Int)),false,())))
  else
   (bif (a0.2.2.1==(-(1:Int))) then
    some (decide (a0.2.2.1≥(0:Int)),decide (a0.2.1≥(0:Int)),())
   else
    some (decide (a0.2.2.1≥(0:Int)),false,())))).bind fun (v0,v1,_)=>
 some (v0,v1,())
theorem zlT (k:Nat):FOk (S:=SyS) prog 168 [.val (.st 17)] [.val .bool,.val .bool] (zgO k):=FOk.mk (k:=k) [.c 14 [(.normal,⟨[e 2 .bool,e 3 .bool],[],1,false⟩)]] [] (by kernel_rfl) fun _=>by kernel_rfl
def Uk (k:Nat):LB ((List zb)×(List zb)×Int×Int×(List Int)×(List Int)×Unit) (Unit ⊕ (Bool×Unit)):=fun (v3,v4,v5,v6,v7,v8,_)=>
 (bif decide (v6<v5) then
  (at? v4 v6).bind fun v9=>
  (zgO k (v9,())).bind fun (v10,v11,_)=>
  (((bif (!v11) then
     some (v3,v6,v4,v5,v6,true,v7,v8,v9,())
    else
     (bif decide (v9.2.2.2.1>v9.2.2.2.2.1) then
      some (v3,v6,v4,v5,v6,true,v7,v8,v9,())
     else
      (bif decide (v6>(0:Int)) then
       (bif decide (v9.1<(1:Int)) then
        some (v3,v6,v4,v5,v6,true,v7,v8,v9,())
       else
        (at? v3 (w64 (v6-(1:Int)))).bind fun v12=>
        some (v3,v6,v4,v5,v6,decide (v9.1>(w64 (v12.1+(1:Int)))),v7,v8,v9,()))
      else
       some (v3,v6,v4,v5,v6,false,v7,v8,v9,()))))).bind fun (v13,v14,v15,v16,v17,v18,v19,v20,v21,_)=>
   (bif v18 then
    some (.inl (false,()))
   else
    (hi? (List.length v19) v21.1).bind fun v22=>
    (hi? (List.length v20) v21.1).bind fun v23=>
    ((bif decide (v14>(0:Int)) then
      (at? (List.take (v22-0) (List.drop 0 v19)) (w64 (v21.1-(1:Int)))).bind fun v24=>
      (List.get?Internal v19 (0+(Int.toNat (w64 (v21.1-(1:Int)))))).bind fun v25=>
      (at? v13 v25).bind fun v26=>
      (zgO k (v26,())).bind fun (v27,v28,_)=>
      (bif v27 then
       some (.inl (false,()))
      else
       (at? (List.take (v23-0) (List.drop 0 v20)) (w64 (v21.1-(1:Int)))).bind fun v29=>
       (List.get?Internal v20 (0+(Int.toNat (w64 (v21.1-(1:Int)))))).bind fun v30=>
       (bif decide (v21.2.2.2.1<v30) then
        some (.inl (false,()))
       else
        (bif decide (v21.2.2.2.2.1>v26.2.2.2.2.1) then
         some (.inl (false,()))
        else
         (at? (List.take (v23-0) (List.drop 0 v20)) (w64 (v21.1-(1:Int)))).bind fun v31=>
         (List.get?Internal v20 (0+(Int.toNat (w64 (v21.1-(1:Int)))))).bind fun v32=>
         (bif (List.isEmpty ([v14]:List Int)) then
          (Option.none)
         else
          room ((v22-0)+(List.length ([v14]:List Int))) 8 ((bif (List.isEmpty ([v21.2.2.2.1]:List Int)) then
           (Option.none)
          else
           room ((v23-0)+(List.length ([v21.2.2.2.1]:List Int))) 8 (some (.inr (v13,v15,v16,v17,((List.take (v22-0) v19)++([v14]:List Int)),((List.take (v23-0) (List.set v20 (0+(Int.toNat (w64 (v21.1-(1:Int))))) v21.2.2.2.2.1))++([v21.2.2.2.1]:List Int)),())))))))))
     else
      (bif (List.isEmpty ([v14]:List Int)) then
       (Option.none)
      else
       room ((v22-0)+(List.length ([v14]:List Int))) 8 ((bif (List.isEmpty ([v21.2.2.2.1]:List Int)) then
        (Option.none)
       else
        room ((v23-0)+(List.length ([v21.2.2.2.1]:List Int))) 8 (some (.inr (v13,v15,v16,v17,((List.take (v22-0) v19)++([v14]:List Int)),((List.take (v23-0) v20)++([v21.2.2.2.1]:List Int)),()))))))):Option ((Bool×Unit) ⊕ ((List zb)×(List zb)×Int×Int×(List Int)×(List Int)×Unit))).bind fun
    | .inl (v33,_)=>some (.inl (v33,()))
    | .inr (v34,v35,v36,v37,v38,v39,_)=>some (.inr (v34,v35,v36,v37,v38,v39,()))):Option ((Bool×Unit) ⊕ ((List zb)×(List zb)×Int×Int×(List Int)×(List Int)×Unit))).bind fun
  | .inl (v40,_)=>some (.inr (.inr (v40,())))
  | .inr (v41,v42,v43,v44,v45,v46,_)=>some (.inl (v41,v42,v43,(w64 (v44+(1:Int))),v45,v46,()))
 else
  some (.inr (.inl ())))
def zae (k:Nat):(List zb)×Unit→(Option (Bool×Unit)):=fun (a0,_)=>
 (((bif ((a0.length:Int)==(0:Int)) then
    some (a0,true,())
   else
    (at? a0 (0:Int)).bind fun v0=>
    some (a0,(v0.1 != (0:Int)),()))).bind fun (v1,v2,_)=>
  (bif v2 then
   some (false,())
  else
   ((iter k (Uk k) (v1,v1,(v1.length:Int),(0:Int),([]:List Int),([]:List Int),())).bind fun
    | .inl _=>some (true,())
    | .inr (v47,_)=>some (v47,())).bind fun (v48,_)=>
   some (v48,()))).bind fun (v49,_)=>
 some (v49,())
theorem zcm (k:Nat):FOk (S:=SyS) prog 154 [.val (.list (.st 17))] [.val .bool] (zae k):=FOk.mk (k:=k) [.c 4 [(.ret,⟨[e 2 .bool],[],1,false⟩)],.c 6 [(.normal,⟨[e 0 (.list (.st 17)),e 21 .bool],[],1,false⟩)],.c 31 [(.ret,⟨[e 2 .bool],[],1,false⟩)],.l ⟨[e 0 (.list (.st 17)),(3,.b (.whole 1)),(4,.b (.whole 2)),e 22 (.list (.st 17)),e 23 (.int .i64),e 24 (.int .i64)],[(1,.row 1 (.int .i64)),(2,.row 1 (.int .i64))],3,false⟩ [(.exit 0,⟨[],[],1,false⟩),(.ret,⟨[e 2 .bool],[],1,false⟩)],.c 67 [(.ret,⟨[e 2 .bool],[],1,false⟩),(.normal,⟨[e 0 (.list (.st 17)),(3,.b (.whole 1)),(4,.b (.whole 2)),e 22 (.list (.st 17)),e 23 (.int .i64),e 24 (.int .i64)],[(1,.row 1 (.int .i64)),(2,.row 1 (.int .i64))],3,false⟩)],.c 69 [(.normal,⟨[e 0 (.list (.st 17)),(3,.b (.whole 1)),(4,.b (.whole 2)),e 5 (.int .i64),p 6 3,e 22 (.list (.st 17)),e 23 (.int .i64),e 24 (.int .i64),e 63 .bool],[(1,.row 1 (.int .i64)),(2,.row 1 (.int .i64)),(3,.box none [.one 1 (.st 17)])],4,false⟩)],.c 119 [(.ret,⟨[e 2 .bool],[],1,false⟩),(.normal,⟨[e 0 (.list (.st 17)),(3,.b (.whole 1)),(4,.b (.whole 2)),e 22 (.list (.st 17)),e 23 (.int .i64),e 24 (.int .i64)],[(1,.row 1 (.int .i64)),(2,.row 1 (.int .i64))],3,false⟩)],.e 191 (.int .i64),.e 192 (.int .i64),.e 196 (.int .i64),.e 197 (.int .i64)] [enP (zlT k)] (by kernel_rfl) fun _=>by kernel_rfl
def zj5 (k:Nat):LB ((List zb)×Int×Int×(List Int)×Unit) ((List Int)×Unit):=fun (v4,v5,v6,v7,_)=>
 ((bif decide (v6<(v4.length:Int)) then
   (at? v4 v6).bind fun v8=>
   (at? v4 v5).bind fun v9=>
   some (v4,v5,v6,decide (v8.1>v9.1),v7,())
  else
   some (v4,v5,v6,false,v7,()))).bind fun (v10,v11,v12,v13,v14,_)=>
 (bif v13 then
  (at? v10 v12).bind fun v15=>
  (at? v10 v11).bind fun v16=>
  ((bif (v15.1==(w64 (v16.1+(1:Int)))) then
    room ((List.length v14)+(List.length ([v12]:List Int))) 8 (some (v10,v11,v12,(v14++([v12]:List Int)),()))
   else
    some (v10,v11,v12,v14,()))).bind fun (v17,v18,v19,v20,_)=>
  some (.inl (v17,v18,(w64 (v19+(1:Int))),v20,()))
 else
  some (.inr (v14,())))
def zgR (k:Nat):(List zb)×Int×Unit→(Option ((List Int)×Unit)):=fun (a0,a1,_)=>
 (((zae k (a0,())).bind fun (v0,_)=>
   (bif (!v0) then
    some (a0,a1,true,())
   else
    (bif decide (a1<(0:Int)) then
     some (a0,a1,true,())
    else
     some (a0,a1,decide (a1≥(a0.length:Int)),())))).bind fun (v1,v2,v3,_)=>
  (bif v3 then
   some (([]:List Int),())
  else
   (iter k (zj5 k) (v1,v2,(w64 (v2+(1:Int))),([]:List Int),())).bind fun (v21,_)=>
   some (v21,()))).bind fun (v22,_)=>
 some (v22,())
theorem zid (k:Nat):FOk (S:=SyS) prog 156 [.val (.list (.st 17)),.val (.int .i64)] [.own (.int .i64)] (zgR k):=FOk.mk (k:=k) [.c 4 [(.ret,⟨[(4,.b (.whole 1))],[(1,.row 1 (.int .i64))],2,false⟩)],.c 6 [(.normal,⟨[e 0 (.list (.st 17)),e 1 (.int .i64),e 19 .bool],[],1,false⟩)],.l ⟨[e 0 (.list (.st 17)),e 1 (.int .i64),(5,.b (.whole 1)),e 6 (.int .i64)],[(1,.row 1 (.int .i64))],2,false⟩ [(.exit 0,⟨[(5,.b (.whole 1))],[(1,.row 1 (.int .i64))],2,false⟩)],.c 41 [(.normal,⟨[e 0 (.list (.st 17)),e 1 (.int .i64),(5,.b (.whole 1)),e 6 (.int .i64),e 38 .bool],[(1,.row 1 (.int .i64))],2,false⟩)],.c 78 [(.normal,⟨[e 0 (.list (.st 17)),e 1 (.int .i64),(5,.b (.whole 1)),e 6 (.int .i64)],[(1,.row 1 (.int .i64))],2,false⟩)],.e 82 (.int .i64),.e 83 (.int .i64)] [enP (zcm k)] (by kernel_rfl) fun _=>by kernel_rfl
def zi1 (k:Nat):zb×Int×Unit→(Option (Bool×Unit)):=fun (a0,a1,_)=>
 ((bif decide (a0.2.2.2.1≤a1) then
   some (decide (a1<a0.2.2.2.2.1),())
  else
   some (false,()))).bind fun (v0,_)=>
 some (v0,())
theorem zlQ (k:Nat):FOk (S:=SyS) prog 171 [.val (.st 17),.val (.int .i64)] [.val .bool] (zi1 k):=FOk.mk (k:=k) [.c 6 [(.normal,⟨[e 4 .bool],[],1,false⟩)]] [] (by kernel_rfl) fun _=>by kernel_rfl
def XC (k:Nat):LB (Int×(List zb)×Int×Int×(List Int)×Unit) ((List Int)×Unit):=fun (v1,v2,v3,v4,v5,_)=>
 (bif decide (v4<v3) then
  (at? v2 v4).bind fun v6=>
  ((zi1 k (v6,v1,())).bind fun (v7,_)=>
   (bif v7 then
    some (v1,v4,v2,v3,v4,(v6.1==(v5.length:Int)),v5,())
   else
    some (v1,v4,v2,v3,v4,false,v5,()))).bind fun (v8,v9,v10,v11,v12,v13,v14,_)=>
  ((bif v13 then
    room ((List.length v14)+(List.length ([v9]:List Int))) 8 (some (v8,v10,v11,v12,(v14++([v9]:List Int)),()))
   else
    some (v8,v10,v11,v12,v14,()))).bind fun (v15,v16,v17,v18,v19,_)=>
  some (.inl (v15,v16,v17,(w64 (v18+(1:Int))),v19,()))
 else
  some (.inr (v5,())))
def zgP (k:Nat):(List zb)×Int×Unit→(Option ((List Int)×Unit)):=fun (a0,a1,_)=>
 ((zae k (a0,())).bind fun (v0,_)=>
  (bif (!v0) then
   some (([]:List Int),())
  else
   (iter k (XC k) (a1,a0,(a0.length:Int),(0:Int),([]:List Int),())).bind fun (v20,_)=>
   some (v20,()))).bind fun (v21,_)=>
 some (v21,())
theorem zib (k:Nat):FOk (S:=SyS) prog 158 [.val (.list (.st 17)),.val (.int .i64)] [.own (.int .i64)] (zgP k):=FOk.mk (k:=k) [.c 4 [(.ret,⟨[(4,.b (.whole 1))],[(1,.row 1 (.int .i64))],2,false⟩)],.l ⟨[e 1 (.int .i64),(5,.b (.whole 1)),e 11 (.list (.st 17)),e 12 (.int .i64),e 13 (.int .i64)],[(1,.row 1 (.int .i64))],2,false⟩ [(.exit 0,⟨[(5,.b (.whole 1))],[(1,.row 1 (.int .i64))],2,false⟩)],.c 47 [(.normal,⟨[e 1 (.int .i64),(5,.b (.whole 1)),e 6 (.int .i64),e 11 (.list (.st 17)),e 12 (.int .i64),e 13 (.int .i64),e 27 .bool],[(1,.row 1 (.int .i64))],2,false⟩)],.c 59 [(.normal,⟨[e 1 (.int .i64),(5,.b (.whole 1)),e 11 (.list (.st 17)),e 12 (.int .i64),e 13 (.int .i64)],[(1,.row 1 (.int .i64))],2,false⟩)],.e 63 (.int .i64),.e 64 (.int .i64)] [enP (zcm k),enP (zlQ k)] (by kernel_rfl) fun _=>by kernel_rfl
def zi3 (k:Nat):(List zb)×Unit→(Option ((List zb)×Unit)):=fun (a0,_)=>
 ((bif (List.isEmpty a0) then
   (Option.none)
  else
   room ((List.length ([]:List zb))+(List.length a0)) 40 (some ((([]:List zb)++a0),())))).bind fun (v0,_)=>
 some (v0,())
theorem zlU (k:Nat):FOk (S:=SyS) prog 167 [.val (.list (.st 17))] [.own (.st 17)] (zi3 k):=FOk.mk (k:=k) [.c 4 [(.ret,⟨[(2,.b (.whole 1))],[(1,.row 1 (.st 17))],2,false⟩)],.e 17 (.st 17),.e 19 (.st 17)] [] (by kernel_rfl) fun _=>by kernel_rfl
def zj6 (k:Nat):LB (Int×zx) ((List zb)×Unit):=fun (v1,v2,v3,v4,_)=>
 (bif decide (v3<v2) then
  (at? v4 v3).bind fun v5=>
  (List.get?Internal v4 (Int.toNat v3)).bind fun v6=>
  (at? v4 v3).bind fun v7=>
  (List.get?Internal v4 (Int.toNat v3)).bind fun v8=>
  (at? (List.set v4 (Int.toNat v3) (v8.1,v8.2.1,v8.2.2.1,(w64 (v6.2.2.2.1+v1)),v8.2.2.2.2.1,())) v3).bind fun v9=>
  (List.get?Internal (List.set v4 (Int.toNat v3) (v8.1,v8.2.1,v8.2.2.1,(w64 (v6.2.2.2.1+v1)),v8.2.2.2.2.1,())) (Int.toNat v3)).bind fun v10=>
  (at? (List.set v4 (Int.toNat v3) (v8.1,v8.2.1,v8.2.2.1,(w64 (v6.2.2.2.1+v1)),v8.2.2.2.2.1,())) v3).bind fun v11=>
  (List.get?Internal (List.set v4 (Int.toNat v3) (v8.1,v8.2.1,v8.2.2.1,(w64 (v6.2.2.2.1+v1)),v8.2.2.2.2.1,())) (Int.toNat v3)).bind fun v12=>
  some (.inl (v1,v2,(w64 (v3+(1:Int))),(List.set (List.set v4 (Int.toNat v3) (v8.1,v8.2.1,v8.2.2.1,(w64 (v6.2.2.2.1+v1)),v8.2.2.2.2.1,())) (Int.toNat v3) (v12.1,v12.2.1,v12.2.2.1,v12.2.2.2.1,(w64 (v10.2.2.2.2.1+v1)),())),()))
 else
  some (.inr (v4,())))
def zeC (k:Nat):(List zb)×Int×Unit→(Option ((List zb)×Unit)):=fun (a0,a1,_)=>
 (zi3 k (a0,())).bind fun (v0,_)=>
 (iter k (zj6 k) (a1,(v0.length:Int),(0:Int),v0,())).bind fun (v13,_)=>
 some (v13,())
theorem zif (k:Nat):FOk (S:=SyS) prog 153 [.val (.list (.st 17)),.val (.int .i64)] [.own (.st 17)] (zeC k):=FOk.mk (k:=k) [.l ⟨[e 1 (.int .i64),(5,.b (.whole 1)),e 10 (.int .i64),e 11 (.int .i64)],[(1,.row 1 (.st 17))],2,false⟩ [(.exit 0,⟨[(5,.b (.whole 1))],[(1,.row 1 (.st 17))],2,false⟩)]] [enP (zlU k)] (by kernel_rfl) fun _=>by kernel_rfl
def zj3 (k:Nat):LB ((List zb)×(List zb)×zI) (Unit ⊕ (Bool×Unit)):=fun (v0,v1,v2,v3,_)=>
 (bif decide (v3<v2) then
  (at? v0 v3).bind fun v4=>
  (at? v1 v3).bind fun v5=>
  (bif (if (true=true) then (!((v4.1==v5.1)&&((v4.2.1==v5.2.1)&&((v4.2.2.1==v5.2.2.1)&&((v4.2.2.2.1==v5.2.2.2.1)&&((v4.2.2.2.2.1==v5.2.2.2.2.1)&&true)))))) else ((v4.1==v5.1)&&((v4.2.1==v5.2.1)&&((v4.2.2.1==v5.2.2.1)&&((v4.2.2.2.1==v5.2.2.2.1)&&((v4.2.2.2.2.1==v5.2.2.2.2.1)&&true)))))) then
   some (.inr (.inr (false,())))
  else
   some (.inl (v0,v1,v2,(w64 (v3+(1:Int))),())))
 else
  some (.inr (.inl ())))
def zgN (k:Nat):(List zb)×(List zb)×Unit→(Option (Bool×Unit)):=fun (a0,a1,_)=>
 (bif ((a0.length:Int) != (a1.length:Int)) then
  some (false,())
 else
  (iter k (zj3 k) (a0,a1,(a0.length:Int),(0:Int),())).bind fun
  | .inl _=>some (true,())
  | .inr (v6,_)=>some (v6,()))
theorem zlS (k:Nat):FOk (S:=SyS) prog 169 [.val (.list (.st 17)),.val (.list (.st 17))] [.val .bool] (zgN k):=FOk.mk (k:=k) [.l ⟨[e 0 (.list (.st 17)),e 1 (.list (.st 17)),e 12 (.int .i64),e 13 (.int .i64)],[],1,false⟩ [(.exit 0,⟨[],[],1,false⟩),(.ret,⟨[e 4 .bool],[],1,false⟩)]] [] (by kernel_rfl) fun _=>by kernel_rfl
def zbt (k:Nat):(List zb)×(List zb)×Unit→(Option (Bool×Unit)):=fun (a0,a1,_)=>
 (zgN k (a0,a1,())).bind fun (v0,_)=>
 some (v0,())
theorem zie (k:Nat):FOk (S:=SyS) prog 155 [.val (.list (.st 17)),.val (.list (.st 17))] [.val .bool] (zbt k):=FOk.mk (k:=k) [] [enP (zlS k)] (by kernel_rfl) fun _=>by kernel_rfl
def zi6 (k:Nat):Unit→(Option (Bool×Unit)):=fun _=>
 (zgR k (([((0:Int),(0:Int),(-(1:Int)),(0:Int),(2:Int),()),((1:Int),(-(1:Int)),(0:Int),(0:Int),(1:Int),()),((1:Int),(-(1:Int)),(1:Int),(1:Int),(2:Int),())]:List zb),(0:Int),())).bind fun (v0,_)=>
 (zgP k (([((0:Int),(0:Int),(-(1:Int)),(0:Int),(2:Int),()),((1:Int),(-(1:Int)),(0:Int),(0:Int),(1:Int),()),((1:Int),(-(1:Int)),(1:Int),(1:Int),(2:Int),())]:List zb),(1:Int),())).bind fun (v1,_)=>
 (zeC k (([((0:Int),(0:Int),(-(1:Int)),(0:Int),(2:Int),()),((1:Int),(-(1:Int)),(0:Int),(0:Int),(1:Int),()),((1:Int),(-(1:Int)),(1:Int),(1:Int),(2:Int),())]:List zb),(3:Int),())).bind fun (v2,_)=>
 ((zae k (([((0:Int),(0:Int),(-(1:Int)),(0:Int),(2:Int),()),((1:Int),(-(1:Int)),(0:Int),(0:Int),(1:Int),()),((1:Int),(-(1:Int)),(1:Int),(1:Int),(2:Int),())]:List zb),())).bind fun (v3,_)=>
  (bif v3 then
   (bif ((v0.length:Int)==(2:Int)) then
    (bif ((v1.length:Int)==(2:Int)) then
     (at? v1 (1:Int)).bind fun v4=>
     (List.get?Internal v1 (Int.toNat (1:Int))).bind fun v5=>
     (bif (v5==(2:Int)) then
      (bif ((v2.length:Int)==(3:Int)) then
       (at? v2 (0:Int)).bind fun v6=>
       (List.get?Internal v2 (Int.toNat (0:Int))).bind fun v7=>
       (bif (v7.2.2.2.1==(3:Int)) then
        (zbt k (([((0:Int),(0:Int),(-(1:Int)),(0:Int),(2:Int),()),((1:Int),(-(1:Int)),(0:Int),(0:Int),(1:Int),()),((1:Int),(-(1:Int)),(1:Int),(1:Int),(2:Int),())]:List zb),([((0:Int),(0:Int),(-(1:Int)),(0:Int),(2:Int),()),((1:Int),(-(1:Int)),(0:Int),(0:Int),(1:Int),()),((1:Int),(-(1:Int)),(1:Int),(1:Int),(2:Int),())]:List zb),())).bind fun (v8,_)=>
        some (v8,())
       else
        some (false,()))
      else
       some (false,()))
     else
      some (false,()))
    else
     some (false,()))
   else
    some (false,()))
  else
   some (false,()))).bind fun (v9,_)=>
 some (v9,())
theorem zlX (k:Nat):FOk (S:=SyS) prog 151 [] [.val .bool] (zi6 k):=FOk.mk (k:=k) [.e 9 (.st 17),.c 25 [(.normal,⟨[e 0 .bool],[],1,false⟩)]] [enP (zid k),enP (zib k),enP (zif k),enP (zcm k),enP (zie k)] (by kernel_rfl) fun _=>by kernel_rfl
def G28 (k:Nat):Unit→(Option ((List (List UInt8))×Unit)):=fun _=>
 some (([[116,111,107,101,110,32,97,32,61,32,97,10,116,111,107,101,110,32,98,32,61,32,98,10,116,114,105,118,105,97,32,119,32,61,32,92,120,50,48,10,115,99,111,112,101,32,104,111,116,32,61,32,49,46,53,10,115,99,111,112,101,32,111,100,100,32,61,32,110,97,110,10,114,117,108,101,32,115,32,61,32,97,32,116,32,98,32,58,32,104,111,116,10,114,117,108,101,32,116,32,61,32,115,32,58,32,111,100,100,10,114,117,108,101,32,116,32,61,10,115,121,110,99,32,92,120,48,97,32,124,10,109,97,120,32,49,50,10],[116,111,107,101,110,32,110,32,61,32,91,48,45,50,93,43,10,116,111,107,101,110,32,109,32,61,32,92,45,10,116,114,105,118,105,97,32,119,32,61,32,91,92,120,50,48,93,43,10,115,99,111,112,101,32,120,32,61,32,48,46,50,53,10,115,99,111,112,101,32,121,32,61,32,45,105,110,102,10,115,99,111,112,101,32,122,32,61,32,105,110,102,10,114,117,108,101,32,115,32,61,32,115,32,109,32,102,32,58,32,120,10,114,117,108,101,32,115,32,61,32,102,10,114,117,108,101,32,102,32,61,32,110,32,58,32,121,10,114,117,108,101,32,102,32,61,32,109,32,102,32,58,32,122,10,115,121,110,99,32,124,32,92,120,48,97,10,109,97,120,32,49,48,10],[116,111,107,101,110,32,97,32,61,32,97,43,10,116,111,107,101,110,32,98,32,61,32,98,40,97,124,98,41,42,10,115,99,111,112,101,32,104,32,61,32,45,48,10,114,117,108,101,32,115,32,61,32,97,32,58,32,104,10,114,117,108,101,32,115,32,61,32,98,10,115,121,110,99,32,92,120,48,97,32,124,32,46,10,109,97,120,32,57,10],[116,111,107,101,110,32,113,32,61,32,92,120,50,50,91,94,92,120,50,50,92,120,48,97,93,42,92,120,50,50,10,116,111,107,101,110,32,99,32,61,32,58,10,116,111,107,101,110,32,108,32,61,32,92,120,55,98,10,116,111,107,101,110,32,114,32,61,32,92,120,55,100,10,116,111,107,101,110,32,107,32,61,32,44,10,116,114,105,118,105,97,32,119,32,61,32,92,120,50,48,10,115,99,111,112,101,32,107,101,121,32,61,32,48,46,53,10,115,99,111,112,101,32,111,98,106,32,61,32,50,10,114,117,108,101,32,111,32,61,32,108,32,114,32,58,32,111,98,106,10,114,117,108,101,32,111,32,61,32,108,32,109,32,114,32,58,32,111,98,106,10,114,117,108,101,32,109,32,61,32,112,10,114,117,108,101,32,109,32,61,32,109,32,107,32,112,10,114,117,108,101,32,112,32,61,32,121,32,99,32,118,10,114,117,108,101,32,121,32,61,32,113,32,58,32,107,101,121,10,114,117,108,101,32,118,32,61,32,113,10,114,117,108,101,32,118,32,61,32,111,10,115,121,110,99,32,92,120,48,97,32,124,32,91,97,45,122,93,10,109,97,120,32,50,52,10],[116,111,107,101,110,32,97,116,32,61,32,97,116,10,116,111,107,101,110,32,100,32,61,32,92,46,10,116,111,107,101,110,32,110,32,61,32,91,97,45,122,93,43,10,116,114,105,118,105,97,32,116,32,61,32,92,120,48,97,92,120,50,48,42,10,115,99,111,112,101,32,102,32,61,32,51,10,114,117,108,101,32,115,32,61,32,97,116,32,112,10,114,117,108,101,32,115,32,61,32,115,32,97,116,32,112,32,58,32,102,10,114,117,108,101,32,112,32,61,32,110,10,114,117,108,101,32,112,32,61,32,112,32,100,32,110,10,115,121,110,99,32,92,120,48,97,32,124,32,91,48,45,57,93,10,109,97,120,32,50,48,10]]:List (List UInt8)),())
theorem zo6 (k:Nat):FOk (S:=SyS) prog 28 [] [.own .str] (G28 k):=FOk.mk (k:=k) [.e 6 .str] [] (by kernel_rfl) fun _=>by kernel_rfl
def G21 (k:Nat):Int×Unit→(Option ((List UInt8)×Unit)):=fun (a0,_)=>
 (G28 k ()).bind fun (v0,_)=>
 nz (v0.length:Int) ((at? v0 (Int.tmod (w64 a0) (v0.length:Int))).bind fun v1=>
 (List.get?Internal v0 (Int.toNat (Int.tmod (w64 a0) (v0.length:Int)))).bind fun v2=>
 some (v2,()))
theorem zpb (k:Nat):FOk (S:=SyS) prog 21 [.val (.int .u8)] [.val .str] (G21 k):=FOk.mk (k:=k) [] [enP (zo6 k)] (by kernel_rfl) fun _=>by kernel_rfl
def znN (k:Nat):LB ((List UInt8)×Int×Int×(List (List UInt8))×Unit) ((List UInt8)×Int×(List (List UInt8))×Unit):=fun (v0,v1,v2,v3,_)=>
 (bif decide (v2<(v0.length:Int)) then
  (at? v0 v2).bind fun v4=>
  ((bif ((((UInt8.toNat v4):Nat):Int)==(10:Int)) then
    (cut? (List.length v0) v1 v2).bind fun (v5,v6)=>
    room ((List.length v3)+(List.length ([(slC (Option.some v1) (Option.some v2) v5 v6 v0)]:List (List UInt8)))) 16 (some (v0,(w64 (v2+(1:Int))),v2,(v3++([(slC (Option.some v1) (Option.some v2) v5 v6 v0)]:List (List UInt8))),()))
   else
    some (v0,v1,v2,v3,()))).bind fun (v7,v8,v9,v10,_)=>
  some (.inl (v7,v8,(w64 (v9+(1:Int))),v10,()))
 else
  some (.inr (v0,v1,v3,())))
def G30 (k:Nat):(List UInt8)×Unit→(Option ((List (List UInt8))×Bool×Unit)):=fun (a0,_)=>
 (iter k (znN k) (a0,(0:Int),(0:Int),([]:List (List UInt8)),())).bind fun (v11,v12,v13,_)=>
 (bif decide (v12<(v11.length:Int)) then
  (hi? (List.length v11) v12).bind fun v14=>
  room ((List.length v13)+(List.length ([(slC (Option.some v12) (Option.none) v14 (List.length v11) v11)]:List (List UInt8)))) 16 (some ((v13++([(slC (Option.some v12) (Option.none) v14 (List.length v11) v11)]:List (List UInt8))),false,()))
 else
  some (v13,true,()))
theorem zo4 (k:Nat):FOk (S:=SyS) prog 30 [.val (.str)] [.own .str,.val .bool] (G30 k):=FOk.mk (k:=k) [.l ⟨[e 0 .str,(4,.b (.whole 1)),e 5 (.int .i64),e 6 (.int .i64)],[(1,.row 1 .str)],2,false⟩ [(.exit 0,⟨[e 0 .str,(4,.b (.whole 1)),e 5 (.int .i64)],[(1,.row 1 .str)],2,false⟩)],.c 38 [(.normal,⟨[e 0 .str,(4,.b (.whole 1)),e 5 (.int .i64),e 6 (.int .i64)],[(1,.row 1 .str)],2,false⟩)],.e 45 .str,.e 46 .str,.e 72 .str,.e 73 .str] [] (by kernel_rfl) fun _=>by kernel_rfl
def znM (k:Nat):LB ((List UInt8)×Int×(List (List UInt8))×Unit) ((List (List UInt8))×Unit):=fun (v0,v1,v2,_)=>
 (bif decide (v1<(v0.length:Int)) then
  (at? v0 v1).bind fun v3=>
  ((bif ((((UInt8.toNat v3):Nat):Int)==(32:Int)) then
    room ((List.length v2)+(List.length ([([]:List UInt8)]:List (List UInt8)))) 16 (some (v0,v1,(v2++([([]:List UInt8)]:List (List UInt8))),()))
   else
    (at? v2 (w64 ((v2.length:Int)-(1:Int)))).bind fun v4=>
    (List.get?Internal v2 (Int.toNat (w64 ((v2.length:Int)-(1:Int))))).bind fun v5=>
    (cut? (List.length v0) v1 (w64 (v1+(1:Int)))).bind fun (v6,v7)=>
    room ((List.length v5)+(List.length (slC (Option.some v1) (Option.some (w64 (v1+(1:Int)))) v6 v7 v0))) 1 ((at? v2 (w64 ((v2.length:Int)-(1:Int)))).bind fun v8=>
    (List.get?Internal v2 (Int.toNat (w64 ((v2.length:Int)-(1:Int))))).bind fun v9=>
    some (v0,v1,(List.set v2 (Int.toNat (w64 ((v2.length:Int)-(1:Int)))) (v5++(slC (Option.some v1) (Option.some (w64 (v1+(1:Int)))) v6 v7 v0))),())))).bind fun (v10,v11,v12,_)=>
  some (.inl (v10,(w64 (v11+(1:Int))),v12,()))
 else
  some (.inr (v2,())))
def G31 (k:Nat):(List UInt8)×Unit→(Option ((List (List UInt8))×Unit)):=fun (a0,_)=>
 (iter k (znM k) (a0,(0:Int),([([]:List UInt8)]:List (List UInt8)),())).bind fun (v13,_)=>
 some (v13,())
theorem zo3 (k:Nat):FOk (S:=SyS) prog 31 [.val (.str)] [.own .str] (G31 k):=FOk.mk (k:=k) [.e 6 .str,.l ⟨[e 0 .str,(3,.b (.whole 1)),e 4 (.int .i64)],[(1,.row 1 .str)],2,false⟩ [(.exit 0,⟨[(3,.b (.whole 1))],[(1,.row 1 .str)],2,false⟩)],.c 34 [(.normal,⟨[e 0 .str,(3,.b (.whole 1)),e 4 (.int .i64)],[(1,.row 1 .str)],2,false⟩)],.e 37 .str,.e 38 .str] [] (by kernel_rfl) fun _=>by kernel_rfl
def znL (k:Nat):LB ((List UInt8)×Int×Unit) (Unit ⊕ (Bool×Unit)):=fun (v2,v3,_)=>
 (bif decide (v3<(v2.length:Int)) then
  (at? v2 v3).bind fun v4=>
  ((bif decide ((((UInt8.toNat v4):Nat):Int)≥(97:Int)) then
    (bif decide ((((UInt8.toNat v4):Nat):Int)≤(122:Int)) then
     some (v2,v3,(!true),())
    else
     (bif decide (v3>(0:Int)) then
      (bif decide ((((UInt8.toNat v4):Nat):Int)≥(48:Int)) then
       (bif decide ((((UInt8.toNat v4):Nat):Int)≤(57:Int)) then
        some (v2,v3,(!true),())
       else
        some (v2,v3,(!((((UInt8.toNat v4):Nat):Int)==(95:Int))),()))
      else
       some (v2,v3,(!((((UInt8.toNat v4):Nat):Int)==(95:Int))),()))
     else
      some (v2,v3,(!false),())))
   else
    (bif decide (v3>(0:Int)) then
     (bif decide ((((UInt8.toNat v4):Nat):Int)≥(48:Int)) then
      (bif decide ((((UInt8.toNat v4):Nat):Int)≤(57:Int)) then
       some (v2,v3,(!true),())
      else
       some (v2,v3,(!((((UInt8.toNat v4):Nat):Int)==(95:Int))),()))
     else
      some (v2,v3,(!((((UInt8.toNat v4):Nat):Int)==(95:Int))),()))
    else
     some (v2,v3,(!false),())))).bind fun (v5,v6,v7,_)=>
  (bif v7 then
   some (.inr (.inr (false,())))
  else
   some (.inl (v5,(w64 (v6+(1:Int))),())))
 else
  some (.inr (.inl ())))
def G32 (k:Nat):(List UInt8)×Unit→(Option (Bool×Unit)):=fun (a0,_)=>
 ((bif decide ((a0.length:Int)<(1:Int)) then
   some (a0,true,())
  else
   some (a0,decide ((a0.length:Int)>(12:Int)),()))).bind fun (v0,v1,_)=>
 (bif v1 then
  some (false,())
 else
  (iter k (znL k) (v0,(0:Int),())).bind fun
  | .inl _=>some (true,())
  | .inr (v8,_)=>some (v8,()))
theorem zdl (k:Nat):FOk (S:=SyS) prog 32 [.val (.str)] [.val .bool] (G32 k):=FOk.mk (k:=k) [.c 6 [(.normal,⟨[e 0 .str,e 12 .bool],[],1,false⟩)],.l ⟨[e 0 .str,e 3 (.int .i64)],[],1,false⟩ [(.exit 0,⟨[],[],1,false⟩),(.ret,⟨[e 2 .bool],[],1,false⟩)],.c 47 [(.normal,⟨[e 0 .str,e 3 (.int .i64),e 44 .bool],[],1,false⟩)]] [] (by kernel_rfl) fun _=>by kernel_rfl
def znK (k:Nat):LB ((List (List UInt8))×(List UInt8)×Int×Unit) (Unit ⊕ (Int×Unit)):=fun (v0,v1,v2,_)=>
 (bif decide (v2<(v0.length:Int)) then
  (at? v0 v2).bind fun v3=>
  (bif (v3==v1) then
   some (.inr (.inr (v2,())))
  else
   some (.inl (v0,v1,(w64 (v2+(1:Int))),())))
 else
  some (.inr (.inl ())))
def G33 (k:Nat):(List (List UInt8))×(List UInt8)×Unit→(Option (Int×Unit)):=fun (a0,a1,_)=>
 (iter k (znK k) (a0,a1,(0:Int),())).bind fun
 | .inl _=>some ((-(1:Int)),())
 | .inr (v4,_)=>some (v4,())
theorem zep (k:Nat):FOk (S:=SyS) prog 33 [.val (.list .str),.val (.str)] [.val (.int .i64)] (G33 k):=FOk.mk (k:=k) [.l ⟨[e 0 (.list .str),e 1 .str,e 5 (.int .i64)],[],1,false⟩ [(.exit 0,⟨[],[],1,false⟩),(.ret,⟨[e 4 (.int .i64)],[],1,false⟩)]] [] (by kernel_rfl) fun _=>by kernel_rfl
def zbu (k:Nat):zC×Int×Unit→(Option (Bool×Unit)):=fun (a0,a1,_)=>
 ((bif decide (a0.2.1<(a0.1.length:Int)) then
   (at? a0.1 a0.2.1).bind fun v0=>
   some (((((UInt8.toNat v0):Nat):Int)==a1),())
  else
   some (false,()))).bind fun (v1,_)=>
 some (v1,())
theorem zcn (k:Nat):FOk (S:=SyS) prog 103 [.ptr (.st 16),.val (.int .u8)] [.val .bool] (zbu k):=FOk.mk (k:=k) [.c 5 [(.normal,⟨[e 4 .bool],[],1,false⟩)]] [] (by kernel_rfl) fun _=>by kernel_rfl
def G97 (k:Nat):zC×Int×Unit→(Option (zC×Unit)):=fun (a0,a1,_)=>
 ((bif (a0.2.2.2.1==(0:Int)) then
   some ((a0.1,a0.2.1,a0.2.2.1,a1,()),())
  else
   some (a0,()))).bind fun (v0,_)=>
 some (v0,())
theorem zkL (k:Nat):LOk (S:=SyS) prog 97 (.st 16) [.val (.int .i64)] [] (G97 k):=LOk.mk (k:=k) [.c 8 [(.normal,⟨[p 0 0],[(0,.box (some 0) [.one 1 (.st 16)])],1,false⟩)]] [] (by kernel_rfl) (by kernel_rfl) fun _=>by kernel_rfl
def G18 (k:Nat):zh×Int×Unit→(Option (Bool×Unit)):=fun (a0,a1,_)=>
 nz (64:Int) (inr? (IntKind.u8.wrap (Int.tdiv a1 (64:Int))) 4 (nz (64:Int) (nn (Int.tmod a1 (64:Int)) (some (((IntKind.u64.wrap (((BitVec.toNat ((BitVec.ofInt (Go.IntKind.bits Go.IntKind.u64) (Int.fdiv (Arr.get a0 (Int.toNat (IntKind.u8.wrap (Int.tdiv a1 (64:Int))))) ((2:Int) ^ (Min.min (Int.toNat (Int.tmod a1 (64:Int))) (Go.IntKind.bits Go.IntKind.u64))))) &&& (BitVec.ofInt (Go.IntKind.bits Go.IntKind.u64) (1:Int)))):Nat):Int))==(1:Int)),())))))
theorem zeq (k:Nat):FOk (S:=SyS) prog 18 [.val (.arr 4 .u64),.val (.int .u8)] [.val .bool] (G18 k):=FOk.mk (k:=k) [] [] (by kernel_rfl) fun _=>by kernel_rfl
def zn9 (k:Nat):LB ((List Int)×Int×zh×zh×Unit) (zh×zh×Unit):=fun (v0,v1,v2,v3,_)=>
 (bif decide (v1<(v0.length:Int)) then
  (at? v0 v1).bind fun v4=>
  nz (64:Int) (inr? (IntKind.u8.wrap (Int.tdiv v4 (64:Int))) 4 ((at? v0 v1).bind fun v5=>
  nz (64:Int) (nn (Int.tmod v5 (64:Int)) (inr? (IntKind.u8.wrap (Int.tdiv v4 (64:Int))) 4 (some (.inl (v0,(w64 (v1+(1:Int))),v2,(Arr.upd v3 (Int.toNat (IntKind.u8.wrap (Int.tdiv v4 (64:Int)))) (IntKind.u64.wrap (((BitVec.toNat ((BitVec.ofInt (Go.IntKind.bits Go.IntKind.u64) (Arr.get v3 (Int.toNat (IntKind.u8.wrap (Int.tdiv v4 (64:Int)))))) ||| (BitVec.ofInt (Go.IntKind.bits Go.IntKind.u64) (IntKind.u64.wrap ((1:Int)*((2:Int) ^ (Min.min (Int.toNat (Int.tmod v5 (64:Int))) (Go.IntKind.bits Go.IntKind.u64)))))))):Nat):Int))),())))))))
 else
  some (.inr (v2,v3,())))
def G19 (k:Nat):(List Int)×Unit→(Option (zh×Unit)):=fun (a0,_)=>
 (iter k (zn9 k) (a0,(0:Int),(⟨([0,0,0,0]:List Int),rfl⟩:zh),(⟨([0,0,0,0]:List Int),rfl⟩:zh),())).bind fun (v6,v7,_)=>
 some (v7,())
theorem ziH (k:Nat):FOk (S:=SyS) prog 19 [.val (.list (.int .u8))] [.val (.arr 4 .u64)] (G19 k):=FOk.mk (k:=k) [.l ⟨[e 0 (.list (.int .u8)),p 2 1,p 3 2,e 4 (.int .i64)],[(1,.box none [.one 1 (.arr 4 .u64)]),(2,.box none [.one 1 (.arr 4 .u64)])],3,false⟩ [(.exit 0,⟨[p 2 1,p 3 2],[(1,.box none [.one 1 (.arr 4 .u64)]),(2,.box none [.one 1 (.arr 4 .u64)])],3,false⟩)]] [] (by kernel_rfl) fun _=>by kernel_rfl
def zoa (k:Nat):LB (Int×zh×zh×(List Int)×Unit) (zh×(List Int)×Unit):=fun (v0,v1,v2,v3,_)=>
 (bif decide (v0<(256:Int)) then
  (G18 k (v1,(IntKind.u8.wrap v0),())).bind fun (v4,_)=>
  ((bif (!v4) then
    room ((List.length v3)+(List.length ([(IntKind.u8.wrap v0)]:List Int))) 1 (some (v0,v1,v2,(v3++([(IntKind.u8.wrap v0)]:List Int)),()))
   else
    some (v0,v1,v2,v3,()))).bind fun (v5,v6,v7,v8,_)=>
  some (.inl ((w64 (v5+(1:Int))),v6,v7,v8,()))
 else
  some (.inr (v2,v3,())))
def G11 (k:Nat):zh×Unit→(Option (zh×Unit)):=fun (a0,_)=>
 (iter k (zoa k) ((0:Int),a0,(⟨([0,0,0,0]:List Int),rfl⟩:zh),([]:List Int),())).bind fun (v9,v10,_)=>
 (G19 k (v10,())).bind fun (v11,_)=>
 some (v11,())
theorem zkY (k:Nat):FOk (S:=SyS) prog 11 [.val (.arr 4 .u64)] [.val (.arr 4 .u64)] (G11 k):=FOk.mk (k:=k) [.l ⟨[p 1 1,p 2 2,(3,.b (.whole 3)),e 4 (.int .i64)],[(1,.box none [.one 1 (.arr 4 .u64)]),(2,.box none [.one 1 (.arr 4 .u64)]),(3,.row 1 (.int .u8))],4,false⟩ [(.exit 0,⟨[p 2 1,(3,.b (.whole 2))],[(1,.box none [.one 1 (.arr 4 .u64)]),(2,.row 1 (.int .u8))],3,false⟩)],.c 33 [(.normal,⟨[p 1 1,p 2 2,(3,.b (.whole 3)),e 4 (.int .i64)],[(1,.box none [.one 1 (.arr 4 .u64)]),(2,.box none [.one 1 (.arr 4 .u64)]),(3,.row 1 (.int .u8))],4,false⟩)],.e 38 (.int .u8),.e 39 (.int .u8)] [enP (zeq k),enP (ziH k)] (by kernel_rfl) fun _=>by kernel_rfl
def zkg (k:Nat):LB ((List UInt8)×zI) (Unit ⊕ (Bool×Unit)):=fun (v0,v1,v2,_)=>
 (bif decide (v2<(v0.length:Int)) then
  (at? v0 v2).bind fun v3=>
  (bif ((((UInt8.toNat v3):Nat):Int)==v1) then
   some (.inr (.inr (true,())))
  else
   some (.inl (v0,v1,(w64 (v2+(1:Int))),())))
 else
  some (.inr (.inl ())))
def zjg (k:Nat):(List UInt8)×Int×Unit→(Option (Bool×Unit)):=fun (a0,a1,_)=>
 (iter k (zkg k) (a0,a1,(0:Int),())).bind fun
 | .inl _=>some (false,())
 | .inr (v4,_)=>some (v4,())
theorem zma (k:Nat):FOk (S:=SyS) prog 106 [.val (.str),.val (.int .u8)] [.val .bool] (zjg k):=FOk.mk (k:=k) [.l ⟨[e 0 .str,e 1 (.int .u8),e 5 (.int .i64)],[],1,false⟩ [(.exit 0,⟨[],[],1,false⟩),(.ret,⟨[e 4 .bool],[],1,false⟩)]] [] (by kernel_rfl) fun _=>by kernel_rfl
def zkf (k:Nat):LB zI (Unit ⊕ (Int×Unit)):=fun v0=>
 (bif decide (v0.2.1<(16:Int)) then
  (at? ([48,49,50,51,52,53,54,55,56,57,97,98,99,100,101,102]:List UInt8) v0.2.1).bind fun v1=>
  (bif ((((UInt8.toNat v1):Nat):Int)==v0.1) then
   some (.inr (.inr (v0.2.1,())))
  else
   some (.inl (v0.1,(w64 (v0.2.1+(1:Int))),())))
 else
  some (.inr (.inl ())))
def zeF (k:Nat):Int×Unit→(Option (Int×Unit)):=fun (a0,_)=>
 (iter k (zkf k) (a0,(0:Int),())).bind fun
 | .inl _=>some ((-(1:Int)),())
 | .inr (v2,_)=>some (v2,())
theorem zl9 (k:Nat):FOk (S:=SyS) prog 107 [.val (.int .u8)] [.val (.int .i64)] (zeF k):=FOk.mk (k:=k) [.l ⟨[e 0 (.int .u8),e 3 (.int .i64)],[],1,false⟩ [(.exit 0,⟨[],[],1,false⟩),(.ret,⟨[e 2 (.int .i64)],[],1,false⟩)]] [] (by kernel_rfl) fun _=>by kernel_rfl
def zgS (k:Nat):(List UInt8)×Int×Unit→(Option zI):=fun (a0,a1,_)=>
 (bif decide (a1≥(a0.length:Int)) then
  some ((0:Int),(-(1:Int)),())
 else
  (at? a0 a1).bind fun v0=>
  ((bif ((((UInt8.toNat v0):Nat):Int) != (92:Int)) then
    ((bif decide ((((UInt8.toNat v0):Nat):Int)<(33:Int)) then
      some (a1,(((UInt8.toNat v0):Nat):Int),true,())
     else
      (bif decide ((((UInt8.toNat v0):Nat):Int)>(126:Int)) then
       some (a1,(((UInt8.toNat v0):Nat):Int),true,())
      else
       (zjg k (([92,124,42,43,63,40,41,91,93,46,94,45]:List UInt8),(((UInt8.toNat v0):Nat):Int),())).bind fun (v1,_)=>
       some (a1,(((UInt8.toNat v0):Nat):Int),v1,())))).bind fun (v2,v3,v4,_)=>
    (bif v4 then
     some (.inl ((0:Int),(-(1:Int)),()))
    else
     some (.inl (v3,(w64 (v2+(1:Int))),())))
   else
    some (.inr (a0,a1,()))):Option (zI ⊕ ((List UInt8)×Int×Unit))).bind fun
  | .inl v5=>some (v5.1,v5.2.1,())
  | .inr (v6,v7,_)=>((bif decide ((w64 (v7+(1:Int)))<(v6.length:Int)) then
     (at? v6 (w64 (v7+(1:Int)))).bind fun v8=>
     (zjg k (([92,124,42,43,63,40,41,91,93,46,94,45]:List UInt8),(((UInt8.toNat v8):Nat):Int),())).bind fun (v9,_)=>
     some (v6,v7,v9,())
    else
     some (v6,v7,false,()))).bind fun (v10,v11,v12,_)=>
   (bif v12 then
    (at? v10 (w64 (v11+(1:Int)))).bind fun v13=>
    some ((((UInt8.toNat v13):Nat):Int),(w64 (v11+(2:Int))),())
   else
    ((bif decide ((w64 (v11+(3:Int)))<(v10.length:Int)) then
      (at? v10 (w64 (v11+(1:Int)))).bind fun v14=>
      (bif ((((UInt8.toNat v14):Nat):Int)==(120:Int)) then
       (at? v10 (w64 (v11+(2:Int)))).bind fun v15=>
       (zeF k ((((UInt8.toNat v15):Nat):Int),())).bind fun (v16,_)=>
       (bif decide (v16≥(0:Int)) then
        (at? v10 (w64 (v11+(3:Int)))).bind fun v17=>
        (zeF k ((((UInt8.toNat v17):Nat):Int),())).bind fun (v18,_)=>
        some (v10,v11,decide (v18≥(0:Int)),())
       else
        some (v10,v11,false,()))
      else
       some (v10,v11,false,()))
     else
      some (v10,v11,false,()))).bind fun (v19,v20,v21,_)=>
    (bif v21 then
     (at? v19 (w64 (v20+(2:Int)))).bind fun v22=>
     (zeF k ((((UInt8.toNat v22):Nat):Int),())).bind fun (v23,_)=>
     (at? v19 (w64 (v20+(3:Int)))).bind fun v24=>
     (zeF k ((((UInt8.toNat v24):Nat):Int),())).bind fun (v25,_)=>
     some ((IntKind.u8.wrap (w64 ((w64 (v23*(16:Int)))+v25))),(w64 (v20+(4:Int))),())
    else
     some ((0:Int),(-(1:Int)),()))))
theorem zmb (k:Nat):FOk (S:=SyS) prog 104 [.val (.str),.val (.int .i64)] [.val (.int .u8),.val (.int .i64)] (zgS k):=FOk.mk (k:=k) [.c 32 [(.ret,⟨[e 4 (.int .u8),e 5 (.int .i64)],[],1,false⟩),(.normal,⟨[e 0 .str,e 1 (.int .i64)],[],1,false⟩)],.c 35 [(.normal,⟨[e 1 (.int .i64),e 6 (.int .u8),e 25 .bool],[],1,false⟩)],.c 63 [(.normal,⟨[e 0 .str,e 1 (.int .i64),e 40 .bool],[],1,false⟩)],.c 91 [(.normal,⟨[e 0 .str,e 1 (.int .i64),e 74 .bool],[],1,false⟩)]] [enP (zma k),enP (zl9 k)] (by kernel_rfl) fun _=>by kernel_rfl
def G63 (k:Nat):zh×Unit→(Option (Bool×Unit)):=fun (a0,_)=>
 some ((if (false=true) then (!(((Subtype.val a0)==([0,0,0,0]:List Int))&&true)) else (((Subtype.val a0)==([0,0,0,0]:List Int))&&true)),())
theorem zeo (k:Nat):FOk (S:=SyS) prog 63 [.val (.arr 4 .u64)] [.val .bool] (G63 k):=FOk.mk (k:=k) [] [] (by kernel_rfl) fun _=>by kernel_rfl
def zmk (k:Nat):LB ((List UInt8)×Bool×Int×Int×Int×zh×(List Int)×Unit) ((List UInt8)×Bool×Int×zh×(List Int)×Unit):=fun (v67,v68,v69,v70,v71,v72,v73,_)=>
 (bif decide (v71≤(w64 v70)) then
  room ((List.length v73)+(List.length ([(IntKind.u8.wrap v71)]:List Int))) 1 (some (.inl (v67,v68,v69,v70,(w64 (v71+(1:Int))),v72,(v73++([(IntKind.u8.wrap v71)]:List Int)),())))
 else
  some (.inr (v67,v68,v69,v72,v73,())))
def zml (k:Nat):LB ((List UInt8)×Int×Bool×zh×(List Int)×Unit) (((List UInt8)×Int×Bool×zh×(List Int)×Unit) ⊕ (Int×Int×zh×Unit)):=fun (v26,v27,v28,v29,v30,_)=>
 ((bif decide (v27<(v26.length:Int)) then
   (at? v26 v27).bind fun v31=>
   some (v26,v27,v28,((((UInt8.toNat v31):Nat):Int) != (93:Int)),v29,v30,())
  else
   some (v26,v27,v28,false,v29,v30,()))).bind fun (v32,v33,v34,v35,v36,v37,_)=>
 (bif v35 then
  ((zgS k (v32,v33,())).bind fun v38=>
   (bif decide (v38.2.1<(0:Int)) then
    some (.inl ((0:Int),(2:Int),(⟨([0,0,0,0]:List Int),rfl⟩:zh),()))
   else
    ((bif decide (v38.2.1<(v32.length:Int)) then
      (at? v32 v38.2.1).bind fun v39=>
      some (v32,v34,v38.1,v38.2.1,v38.1,((((UInt8.toNat v39):Nat):Int)==(45:Int)),v36,v37,())
     else
      some (v32,v34,v38.1,v38.2.1,v38.1,false,v36,v37,()))).bind fun (v40,v41,v42,v43,v44,v45,v46,v47,_)=>
    ((bif v45 then
      (zgS k (v40,(w64 (v43+(1:Int))),())).bind fun v48=>
      ((bif decide (v48.2.1<(0:Int)) then
        some (v40,v41,v42,v48.2.1,v48.1,true,v46,v47,())
       else
        some (v40,v41,v42,v48.2.1,v48.1,decide (v48.1<v42),v46,v47,()))).bind fun (v49,v50,v51,v52,v53,v54,v55,v56,_)=>
      (bif v54 then
       some (.inl ((0:Int),(2:Int),(⟨([0,0,0,0]:List Int),rfl⟩:zh),()))
      else
       some (.inr (v49,v50,v51,v52,v53,v55,v56,())))
     else
      some (.inr (v40,v41,v42,v43,v44,v46,v47,()))):Option ((Int×Int×zh×Unit) ⊕ ((List UInt8)×Bool×Int×Int×Int×zh×(List Int)×Unit))).bind fun
    | .inl (v57,v58,v59,_)=>some (.inl (v57,v58,v59,()))
    | .inr (v60,v61,v62,v63,v64,v65,v66,_)=>(iter k (zmk k) (v60,v61,v63,v64,(w64 v62),v65,v66,())).bind fun (v74,v75,v76,v77,v78,_)=>
     some (.inr (v74,v76,v75,v77,v78,()))):Option ((Int×Int×zh×Unit) ⊕ ((List UInt8)×Int×Bool×zh×(List Int)×Unit))).bind fun
  | .inl (v79,v80,v81,_)=>some (.inr (.inr (v79,v80,v81,())))
  | .inr (v82,v83,v84,v85,v86,_)=>some (.inl (v82,v83,v84,v85,v86,()))
 else
  some (.inr (.inl (v32,v33,v34,v36,v37,()))))
def G98 (k:Nat):(List UInt8)×Unit→(Option (zh×zI)):=fun (a0,_)=>
 ((bif decide ((a0.length:Int)>(0:Int)) then
   (at? a0 (0:Int)).bind fun v0=>
   some (a0,((((UInt8.toNat v0):Nat):Int)==(46:Int)),(⟨([0,0,0,0]:List Int),rfl⟩:zh),())
  else
   some (a0,false,(⟨([0,0,0,0]:List Int),rfl⟩:zh),()))).bind fun (v1,v2,v3,_)=>
 (bif v2 then
  (G11 k ((⟨([0,0,0,0]:List Int),rfl⟩:zh),())).bind fun (v4,_)=>
  some (v4,(1:Int),(0:Int),())
 else
  ((bif ((v1.length:Int)==(0:Int)) then
    some (v1,true,v3,())
   else
    (at? v1 (0:Int)).bind fun v5=>
    some (v1,((((UInt8.toNat v5):Nat):Int) != (91:Int)),v3,()))).bind fun (v6,v7,v8,_)=>
  ((bif v7 then
    (zgS k (v6,(0:Int),())).bind fun v9=>
    (bif decide (v9.2.1<(0:Int)) then
     some (.inl ((0:Int),(2:Int),(⟨([0,0,0,0]:List Int),rfl⟩:zh),()))
    else
     (G19 k (([v9.1]:List Int),())).bind fun (v10,_)=>
     some (.inl (v9.2.1,(0:Int),v10,())))
   else
    some (.inr (v6,v8,()))):Option ((Int×Int×zh×Unit) ⊕ ((List UInt8)×zh×Unit))).bind fun
  | .inl (v11,v12,v13,_)=>some (v13,v11,v12,())
  | .inr (v14,v15,_)=>((bif decide ((v14.length:Int)>(1:Int)) then
     (at? v14 (1:Int)).bind fun v16=>
     some (v14,(1:Int),false,((((UInt8.toNat v16):Nat):Int)==(94:Int)),v15,())
    else
     some (v14,(1:Int),false,false,v15,()))).bind fun (v17,v18,v19,v20,v21,_)=>
   ((bif v20 then
     some (v17,(2:Int),true,v21,())
    else
     some (v17,v18,v19,v21,()))).bind fun (v22,v23,v24,v25,_)=>
   (iter k (zml k) (v22,v23,v24,v25,([]:List Int),())).bind fun
   | .inl (v87,v88,v89,v90,v91,_)=>((bif decide (v88≥(v87.length:Int)) then
      some (v88,v89,true,v90,v91,())
     else
      some (v88,v89,((v91.length:Int)==(0:Int)),v90,v91,()))).bind fun (v92,v93,v94,v95,v96,_)=>
    (bif v94 then
     some ((⟨([0,0,0,0]:List Int),rfl⟩:zh),(0:Int),(2:Int),())
    else
     (G19 k (v96,())).bind fun (v97,_)=>
     ((bif v93 then
       (G11 k (v97,())).bind fun (v98,_)=>
       some (v92,v95,v98,())
      else
       some (v92,v95,v97,()))).bind fun (v99,v100,v101,_)=>
     (G63 k (v101,())).bind fun (v102,_)=>
     (bif v102 then
      some ((⟨([0,0,0,0]:List Int),rfl⟩:zh),(0:Int),(2:Int),())
     else
      some (v101,(w64 (v99+(1:Int))),(0:Int),())))
   | .inr (v103,v104,v105,_)=>some (v105,v103,v104,()))
theorem zkK (k:Nat):FOk (S:=SyS) prog 98 [.val (.str)] [.val (.arr 4 .u64),.val (.int .i64),.val (.int .i64)] (G98 k):=FOk.mk (k:=k) [.c 8 [(.normal,⟨[e 0 .str,p 2 1,e 22 .bool],[(1,.box none [.one 1 (.arr 4 .u64)])],2,false⟩)],.c 29 [(.normal,⟨[e 0 .str,p 2 1,e 32 .bool],[(1,.box none [.one 1 (.arr 4 .u64)])],2,false⟩)],.c 39 [(.ret,⟨[p 2 1,e 3 (.int .i64),e 4 (.int .i64)],[(1,.box none [.one 1 (.arr 4 .u64)])],2,false⟩),(.normal,⟨[e 0 .str,p 2 1],[(1,.box none [.one 1 (.arr 4 .u64)])],2,false⟩)],.e 67 (.int .u8),.c 81 [(.normal,⟨[e 0 .str,p 2 1,e 7 (.int .i64),e 8 .bool,e 52 .bool],[(1,.box none [.one 1 (.arr 4 .u64)])],2,false⟩)],.c 91 [(.normal,⟨[e 0 .str,p 2 1,e 7 (.int .i64),e 8 .bool],[(1,.box none [.one 1 (.arr 4 .u64)])],2,false⟩)],.l ⟨[e 0 .str,p 2 1,e 7 (.int .i64),e 8 .bool,(9,.b (.whole 2))],[(1,.box none [.one 1 (.arr 4 .u64)]),(2,.row 1 (.int .u8))],3,false⟩ [(.exit 0,⟨[e 0 .str,p 2 1,e 7 (.int .i64),e 8 .bool,(9,.b (.whole 2))],[(1,.box none [.one 1 (.arr 4 .u64)]),(2,.row 1 (.int .u8))],3,false⟩),(.ret,⟨[p 2 1,e 3 (.int .i64),e 4 (.int .i64)],[(1,.box none [.one 1 (.arr 4 .u64)])],2,false⟩)],.c 105 [(.normal,⟨[e 0 .str,p 2 1,e 7 (.int .i64),e 8 .bool,(9,.b (.whole 2)),e 62 .bool],[(1,.box none [.one 1 (.arr 4 .u64)]),(2,.row 1 (.int .u8))],3,false⟩)],.c 118 [(.ret,⟨[p 2 1,e 3 (.int .i64),e 4 (.int .i64)],[(1,.box none [.one 1 (.arr 4 .u64)])],2,false⟩),(.normal,⟨[e 0 .str,p 2 1,e 7 (.int .i64),e 8 .bool,(9,.b (.whole 2))],[(1,.box none [.one 1 (.arr 4 .u64)]),(2,.row 1 (.int .u8))],3,false⟩)],.c 151 [(.normal,⟨[e 0 .str,p 2 1,e 8 .bool,(9,.b (.whole 2)),e 10 (.int .u8),e 11 (.int .i64),e 12 (.int .u8),e 82 .bool],[(1,.box none [.one 1 (.arr 4 .u64)]),(2,.row 1 (.int .u8))],3,false⟩)],.c 163 [(.ret,⟨[p 2 1,e 3 (.int .i64),e 4 (.int .i64)],[(1,.box none [.one 1 (.arr 4 .u64)])],2,false⟩),(.normal,⟨[e 0 .str,p 2 1,e 8 .bool,(9,.b (.whole 2)),e 10 (.int .u8),e 11 (.int .i64),e 12 (.int .u8)],[(1,.box none [.one 1 (.arr 4 .u64)]),(2,.row 1 (.int .u8))],3,false⟩)],.c 177 [(.normal,⟨[e 0 .str,p 2 1,e 8 .bool,(9,.b (.whole 2)),e 10 (.int .u8),e 11 (.int .i64),e 12 (.int .u8),e 96 .bool],[(1,.box none [.one 1 (.arr 4 .u64)]),(2,.row 1 (.int .u8))],3,false⟩)],.l ⟨[e 0 .str,p 2 1,e 8 .bool,(9,.b (.whole 2)),e 11 (.int .i64),e 12 (.int .u8),e 13 (.int .i64)],[(1,.box none [.one 1 (.arr 4 .u64)]),(2,.row 1 (.int .u8))],3,false⟩ [(.exit 2,⟨[e 0 .str,p 2 1,e 8 .bool,(9,.b (.whole 2)),e 11 (.int .i64)],[(1,.box none [.one 1 (.arr 4 .u64)]),(2,.row 1 (.int .u8))],3,false⟩)],.e 218 (.int .u8),.e 219 (.int .u8),.c 233 [(.normal,⟨[p 2 1,e 7 (.int .i64),e 8 .bool,(9,.b (.whole 2)),e 120 .bool],[(1,.box none [.one 1 (.arr 4 .u64)]),(2,.row 1 (.int .u8))],3,false⟩)],.c 264 [(.normal,⟨[p 2 1,e 7 (.int .i64),p 14 2],[(1,.box none [.one 1 (.arr 4 .u64)]),(2,.box none [.one 1 (.arr 4 .u64)])],3,false⟩)]] [enP (zkY k),enP (zmb k),enP (ziH k),enP (zeo k)] (by kernel_rfl) fun _=>by kernel_rfl
abbrev E96:=(zC×Unit)→(Option (zC×RxT×Unit))
def zip (k:Nat)(e:E96):zC×Unit→(Option (zC×RxT×Unit)):=fun (a0,_)=>
 (zbu k (a0,(40:Int),())).bind fun (v0,_)=>
 ((bif v0 then
   (bif decide (a0.2.2.1>(12:Int)) then
    (G97 k (a0,(6:Int),())).bind fun (v1,_)=>
    some (.inl (v1,(RxT.mk (0:Int) (⟨([0,0,0,0]:List Int),rfl⟩:zh) ([]:List RxT)),()))
   else
    (e ((a0.1,(w64 (a0.2.1+(1:Int))),(w64 (a0.2.2.1+(1:Int))),a0.2.2.2.1,()),())).bind fun (v2,v3,_)=>
    (zbu k (v2,(41:Int),())).bind fun (v4,_)=>
    ((bif (!v4) then
      (G97 k (v2,(2:Int),())).bind fun (v5,_)=>
      some (v5,(0:Int),(⟨([0,0,0,0]:List Int),rfl⟩:zh),v3,())
     else
      some (v2,(0:Int),(⟨([0,0,0,0]:List Int),rfl⟩:zh),v3,()))).bind fun (v6,v7,v8,v9,_)=>
    some (.inl ((v6.1,(w64 (v6.2.1+(1:Int))),(w64 (v6.2.2.1-(1:Int))),v6.2.2.2.1,()),v9,())))
  else
   some (.inr (a0,(0:Int),(⟨([0,0,0,0]:List Int),rfl⟩:zh),()))):Option ((zC×RxT×Unit) ⊕ (zC×Int×zh×Unit))).bind fun
 | .inl (v10,v11,_)=>some (v10,v11,())
 | .inr (v12,v13,v14,_)=>(hi? (List.length v12.1) (if (false=true) then (if (v12.1.length:Int)>v12.2.1 then (v12.1.length:Int) else v12.2.1) else (if (v12.1.length:Int)<v12.2.1 then (v12.1.length:Int) else v12.2.1))).bind fun v15=>
  (G98 k ((slC (Option.some (if (false=true) then (if (v12.1.length:Int)>v12.2.1 then (v12.1.length:Int) else v12.2.1) else (if (v12.1.length:Int)<v12.2.1 then (v12.1.length:Int) else v12.2.1))) (Option.none) v15 (List.length v12.1) v12.1),())).bind fun (v16,v17,v18,_)=>
  ((bif (v18 != (0:Int)) then
    (G97 k (v12,v18,())).bind fun (v19,_)=>
    some (v17,v19,v13,v14,v16,())
   else
    some (v17,v12,v13,v14,v16,()))).bind fun (v20,v21,v22,v23,v24,_)=>
  some ((v21.1,(w64 (v21.2.1+v20)),v21.2.2.1,v21.2.2.2.1,()),(RxT.mk (1:Int) v24 ([]:List RxT)),())
theorem zjz (k:Nat)(e1:E96)(h1:LOk (S:=SyS) prog 96 (.st 16) [] [.val (.st 0)] e1):LOk (S:=SyS) prog 108 (.st 16) [] [.val (.st 0)] (zip k e1):=LOk.mk (k:=k) [.c 10 [(.ret,⟨[p 0 0,p 2 1],[(0,.box (some 0) [.one 1 (.st 16)]),(1,.box none [.one 1 (.st 0)])],2,false⟩),(.normal,⟨[p 0 0,p 2 1],[(0,.box (some 0) [.one 1 (.st 16)]),(1,.box none [.one 1 (.int .i64),.one 1 (.arr 4 .u64),.nil])],2,false⟩)],.c 67 [(.normal,⟨[p 0 0,p 2 1,p 3 2],[(0,.box (some 0) [.one 1 (.st 16)]),(1,.box none [.one 1 (.int .i64),.one 1 (.arr 4 .u64),.nil]),(2,.box none [.one 1 (.st 0)])],3,false⟩)],.c 132 [(.normal,⟨[p 0 0,p 2 1,p 4 2,e 5 (.int .i64)],[(0,.box (some 0) [.one 1 (.st 16)]),(1,.box none [.one 1 (.int .i64),.one 1 (.arr 4 .u64),.nil]),(2,.box none [.one 1 (.arr 4 .u64)])],3,false⟩)]] [enP (zcn k),enL (zkL k),enL h1,enP (zkK k)] (by kernel_rfl) (by kernel_rfl) fun _=>by kernel_rfl
def zkh (k:Nat):LB ((List UInt8)×Int×zC×Int×zh×RxT×Unit) ((zC×Int×zh×RxT×Unit) ⊕ ((List UInt8)×Int×Int×Int×Int×zh×(List RxT)×Unit)):=fun (v2,v3,v4,v5,v6,v7,_)=>
 (bif decide (v3<(3:Int)) then
  ((bif (v4.2.2.2.1==(0:Int)) then
    (at? v2 v3).bind fun v8=>
    (zbu k (v4,(((UInt8.toNat v8):Nat):Int),())).bind fun (v9,_)=>
    some (v2,v3,v9,v4,v5,v6,v7,())
   else
    some (v2,v3,false,v4,v5,v6,v7,()))).bind fun (v10,v11,v12,v13,v14,v15,v16,_)=>
  (bif v12 then
   some (.inr (.inr (v13.1,(w64 (v13.2.1+(1:Int))),v13.2.2.1,v13.2.2.2.1,(w64 ((4:Int)+v11)),(⟨([0,0,0,0]:List Int),rfl⟩:zh),([v16]:List RxT),())))
  else
   some (.inl (v10,(w64 (v11+(1:Int))),v13,v14,v15,v16,())))
 else
  some (.inr (.inl (v4,v5,v6,v7,()))))
def zeV (k:Nat)(e:E96):zC×Unit→(Option (zC×RxT×Unit)):=fun (a0,_)=>
 (zip k e (a0,())).bind fun (v0,v1,_)=>
 (iter k (zkh k) (([42,43,63]:List UInt8),(0:Int),v0,(0:Int),(⟨([0,0,0,0]:List Int),rfl⟩:zh),v1,())).bind fun
 | .inl (v17,v18,v19,v20,_)=>some (v17,v20,())
 | .inr (v21,v22,v23,v24,v25,v26,v27,_)=>some ((v21,v22,v23,v24,()),(RxT.mk v25 v26 v27),())
theorem zjA (k:Nat)(e1:E96)(h1:LOk (S:=SyS) prog 96 (.st 16) [] [.val (.st 0)] e1):LOk (S:=SyS) prog 105 (.st 16) [] [.val (.st 0)] (zeV k e1):=LOk.mk (k:=k) [.l ⟨[p 0 0,p 2 1,p 3 2,e 4 .str,e 5 (.int .i64)],[(0,.box (some 0) [.one 1 (.st 16)]),(1,.box none [.one 1 (.int .i64),.one 1 (.arr 4 .u64),.nil]),(2,.box none [.one 1 (.st 0)])],3,false⟩ [(.exit 0,⟨[p 0 0,p 2 1,p 3 2],[(0,.box (some 0) [.one 1 (.st 16)]),(1,.box none [.one 1 (.int .i64),.one 1 (.arr 4 .u64),.nil]),(2,.box none [.one 1 (.st 0)])],3,false⟩),(.ret,⟨[p 0 0,p 2 1],[(0,.box (some 0) [.one 1 .str,.one 1 (.int .i64),.one 1 (.int .i64),.one 1 (.int .i64)]),(1,.box none [.one 1 (.int .i64),.one 1 (.arr 4 .u64),.whole 2]),(2,.row 1 (.st 0))],3,false⟩)],.c 32 [(.normal,⟨[p 0 0,p 2 1,p 3 2,e 4 .str,e 5 (.int .i64),e 23 .bool],[(0,.box (some 0) [.one 1 (.st 16)]),(1,.box none [.one 1 (.int .i64),.one 1 (.arr 4 .u64),.nil]),(2,.box none [.one 1 (.st 0)])],3,false⟩)],.e 63 (.st 0)] [enL (zjz k e1 h1),enP (zcn k)] (by kernel_rfl) (by kernel_rfl) fun _=>by kernel_rfl
def zki (k:Nat)(e:E96):LB (zC×Int×zh×(List RxT)×Unit) (zC×Int×zh×(List RxT)×Unit):=fun (v2,v3,v4,v5,_)=>
 ((bif (v2.2.2.2.1==(0:Int)) then
   (bif decide (v2.2.1<(v2.1.length:Int)) then
    (zbu k (v2,(124:Int),())).bind fun (v6,_)=>
    (bif (!v6) then
     (zbu k (v2,(41:Int),())).bind fun (v7,_)=>
     some ((!v7),v2,v3,v4,v5,())
    else
     some (false,v2,v3,v4,v5,()))
   else
    some (false,v2,v3,v4,v5,()))
  else
   some (false,v2,v3,v4,v5,()))).bind fun (v8,v9,v10,v11,v12,_)=>
 (bif v8 then
  (zeV k e (v9,())).bind fun (v13,v14,_)=>
  room ((List.length v12)+(List.length ([v14]:List RxT))) 64 (some (.inl (v13,v10,v11,(v12++([v14]:List RxT)),())))
 else
  some (.inr (v9,v10,v11,v12,())))
def zeW (k:Nat)(e:E96):zC×Unit→(Option (zC×RxT×Unit)):=fun (a0,_)=>
 (zeV k e (a0,())).bind fun (v0,v1,_)=>
 (iter k (zki k e) (v0,(0:Int),(⟨([0,0,0,0]:List Int),rfl⟩:zh),([v1]:List RxT),())).bind fun (v15,v16,v17,v18,_)=>
 (bif ((v18.length:Int)==(1:Int)) then
  (at? v18 (0:Int)).bind fun v19=>
  (List.get?Internal v18 (Int.toNat (0:Int))).bind fun v20=>
  some (v15,v20,())
 else
  some (v15,(RxT.mk (2:Int) (⟨([0,0,0,0]:List Int),rfl⟩:zh) v18),()))
theorem zjB (k:Nat)(e1:E96)(h1:LOk (S:=SyS) prog 96 (.st 16) [] [.val (.st 0)] e1):LOk (S:=SyS) prog 102 (.st 16) [] [.val (.st 0)] (zeW k e1):=LOk.mk (k:=k) [.e 8 (.st 0),.l ⟨[p 0 0,p 2 1,(3,.b (.whole 2))],[(0,.box (some 0) [.one 1 (.st 16)]),(1,.box none [.one 1 (.int .i64),.one 1 (.arr 4 .u64),.nil]),(2,.row 1 (.st 0))],3,false⟩ [(.exit 0,⟨[p 0 0,p 2 1,(3,.b (.whole 2))],[(0,.box (some 0) [.one 1 (.st 16)]),(1,.box none [.one 1 (.int .i64),.one 1 (.arr 4 .u64),.nil]),(2,.row 1 (.st 0))],3,false⟩)],.c 16 [(.normal,⟨[p 0 0,p 2 1,(3,.b (.whole 2)),e 33 .bool],[(0,.box (some 0) [.one 1 (.st 16)]),(1,.box none [.one 1 (.int .i64),.one 1 (.arr 4 .u64),.nil]),(2,.row 1 (.st 0))],3,false⟩)],.e 51 (.st 0),.e 52 (.st 0)] [enL (zjA k e1 h1),enP (zcn k)] (by kernel_rfl) (by kernel_rfl) fun _=>by kernel_rfl
def zmm (k:Nat)(e:E96):LB (zC×Int×zh×(List RxT)×Unit) (zC×Int×zh×(List RxT)×Unit):=fun (v2,v3,v4,v5,_)=>
 ((bif (v2.2.2.2.1==(0:Int)) then
   (zbu k (v2,(124:Int),())).bind fun (v6,_)=>
   some (v6,v2,v3,v4,v5,())
  else
   some (false,v2,v3,v4,v5,()))).bind fun (v7,v8,v9,v10,v11,_)=>
 (bif v7 then
  (zeW k e ((v8.1,(w64 (v8.2.1+(1:Int))),v8.2.2.1,v8.2.2.2.1,()),())).bind fun (v12,v13,_)=>
  room ((List.length v11)+(List.length ([v13]:List RxT))) 64 (some (.inl (v12,v9,v10,(v11++([v13]:List RxT)),())))
 else
  some (.inr (v8,v9,v10,v11,())))
def zlg (k:Nat)(e:E96):zC×Unit→(Option (zC×RxT×Unit)):=fun (a0,_)=>
 (zeW k e (a0,())).bind fun (v0,v1,_)=>
 (iter k (zmm k e) (v0,(0:Int),(⟨([0,0,0,0]:List Int),rfl⟩:zh),([v1]:List RxT),())).bind fun (v14,v15,v16,v17,_)=>
 (bif ((v17.length:Int)==(1:Int)) then
  (at? v17 (0:Int)).bind fun v18=>
  (List.get?Internal v17 (Int.toNat (0:Int))).bind fun v19=>
  some (v14,v19,())
 else
  some (v14,(RxT.mk (3:Int) (⟨([0,0,0,0]:List Int),rfl⟩:zh) v17),()))
theorem zlK (k:Nat)(e1:E96)(h1:LOk (S:=SyS) prog 96 (.st 16) [] [.val (.st 0)] e1):LOk (S:=SyS) prog 96 (.st 16) [] [.val (.st 0)] (zlg k e1):=LOk.mk (k:=k) [.e 8 (.st 0),.l ⟨[p 0 0,p 2 1,(3,.b (.whole 2))],[(0,.box (some 0) [.one 1 (.st 16)]),(1,.box none [.one 1 (.int .i64),.one 1 (.arr 4 .u64),.nil]),(2,.row 1 (.st 0))],3,false⟩ [(.exit 0,⟨[p 0 0,p 2 1,(3,.b (.whole 2))],[(0,.box (some 0) [.one 1 (.st 16)]),(1,.box none [.one 1 (.int .i64),.one 1 (.arr 4 .u64),.nil]),(2,.row 1 (.st 0))],3,false⟩)],.c 16 [(.normal,⟨[p 0 0,p 2 1,(3,.b (.whole 2)),e 15 .bool],[(0,.box (some 0) [.one 1 (.st 16)]),(1,.box none [.one 1 (.int .i64),.one 1 (.arr 4 .u64),.nil]),(2,.row 1 (.st 0))],3,false⟩)],.e 44 (.st 0),.e 45 (.st 0)] [enL (zjB k e1 h1),enP (zcn k)] (by kernel_rfl) (by kernel_rfl) fun _=>by kernel_rfl
def P96 (k:Nat):Nat→ {e:E96 // LOk (S:=SyS) prog 96 (.st 16) [] [.val (.st 0)] e}
 | 0=>⟨fun _=>none,fun _ _ h=>nomatch h⟩
 | d+1=>⟨zlg k (P96 k d).1,zlK k _ (P96 k d).2⟩
def G96 (k:Nat):E96:=(P96 k k).1
theorem zol (k:Nat):LOk (S:=SyS) prog 96 (.st 16) [] [.val (.st 0)] (G96 k):=(P96 k k).2
abbrev E86:=(RxT×Unit)→(Option (Bool×Unit))
def zmD (k:Nat)(e:E86):LB (Int×RxT×Unit) ((RxT×Unit) ⊕ (Bool×Unit)):=fun (v18,v19,_)=>
 (bif decide (v18<((RxT.a v19).length:Int)) then
  ((at? (RxT.a v19) v18).bind fun v20=>
   (e (v20,())).bind fun (v21,_)=>
   (bif (!v21) then
    some (v18,true,v19,())
   else
    (at? (RxT.a v19) v18).bind fun v22=>
    some (v18,((RxT.k v22)==(RxT.k v19)),v19,()))).bind fun (v23,v24,v25,_)=>
  (bif v24 then
   some (.inr (.inr (false,())))
  else
   some (.inl ((w64 (v23+(1:Int))),v25,())))
 else
  some (.inr (.inl (v19,()))))
def zlj (k:Nat)(e:E86):RxT×Unit→(Option (Bool×Unit)):=fun (a0,_)=>
 ((bif ((RxT.k a0)==(1:Int)) then
   ((bif (((RxT.a a0).length:Int)==(0:Int)) then
     (G63 k ((RxT.s a0),())).bind fun (v0,_)=>
     some ((!v0),())
    else
     some (false,()))).bind fun (v1,_)=>
   some (.inl (v1,()))
  else
   ((bif ((RxT.k a0)==(2:Int)) then
     some ((RxT.k a0),((RxT.k a0)==(2:Int)),a0,())
    else
     some ((RxT.k a0),((RxT.k a0)==(3:Int)),a0,()))).bind fun (v2,v3,v4,_)=>
   ((bif v3 then
     (bif decide (((RxT.a v4).length:Int)<(2:Int)) then
      some (.inl (false,()))
     else
      some (.inr (v4,())))
    else
     ((bif (v2==(4:Int)) then
       some ((v2==(4:Int)),v4,())
      else
       ((bif (v2==(5:Int)) then
         some ((v2==(5:Int)),v4,())
        else
         some ((v2==(6:Int)),v4,()))).bind fun (v5,v6,_)=>
       some (v5,v6,()))).bind fun (v7,v8,_)=>
     ((bif v7 then
       ((bif (((RxT.a v8).length:Int) != (1:Int)) then
         some (true,v8,())
        else
         (at? (RxT.a v8) (0:Int)).bind fun v9=>
         some (decide ((RxT.k v9)≥(4:Int)),v8,()))).bind fun (v10,v11,_)=>
       (bif v10 then
        some (.inl (false,()))
       else
        some (.inr (v11,())))
      else
       some (.inl (false,()))):Option ((Bool×Unit) ⊕ (RxT×Unit))).bind fun
     | .inl (v12,_)=>some (.inl (v12,()))
     | .inr (v13,_)=>some (.inr (v13,()))):Option ((Bool×Unit) ⊕ (RxT×Unit))).bind fun
   | .inl (v14,_)=>some (.inl (v14,()))
   | .inr (v15,_)=>some (.inr (v15,()))):Option ((Bool×Unit) ⊕ (RxT×Unit))).bind fun
 | .inl (v16,_)=>some (v16,())
 | .inr (v17,_)=>(iter k (zmD k e) ((0:Int),v17,())).bind fun
  | .inl (v26,_)=>(G63 k ((RxT.s v26),())).bind fun (v27,_)=>
   some (v27,())
  | .inr (v28,_)=>some (v28,())
theorem zlN (k:Nat)(e1:E86)(h1:FOk (S:=SyS) prog 86 [.val (.st 0)] [.val .bool] e1):FOk (S:=SyS) prog 86 [.val (.st 0)] [.val .bool] (zlj k e1):=FOk.mk (k:=k) [.c 17 [(.ret,⟨[e 2 .bool],[],1,false⟩),(.normal,⟨[p 1 1],[(1,.box none [.one 1 (.st 0)])],2,false⟩)],.c 19 [(.normal,⟨[e 2 .bool],[],1,false⟩)],.c 38 [(.normal,⟨[p 1 1,e 5 (.int .i64),e 18 .bool],[(1,.box none [.one 1 (.st 0)])],2,false⟩)],.c 43 [(.ret,⟨[e 2 .bool],[],1,false⟩),(.normal,⟨[p 1 1],[(1,.box none [.one 1 (.st 0)])],2,false⟩)],.c 62 [(.normal,⟨[p 1 1,e 25 .bool],[(1,.box none [.one 1 (.st 0)])],2,false⟩)],.c 68 [(.normal,⟨[p 1 1,e 25 .bool],[(1,.box none [.one 1 (.st 0)])],2,false⟩)],.c 73 [(.ret,⟨[e 2 .bool],[],1,false⟩),(.normal,⟨[p 1 1],[(1,.box none [.one 1 (.st 0)])],2,false⟩)],.c 75 [(.normal,⟨[p 1 1,e 40 .bool],[(1,.box none [.one 1 (.st 0)])],2,false⟩)],.l ⟨[p 1 1,e 3 (.int .i64)],[(1,.box none [.one 1 (.st 0)])],2,false⟩ [(.exit 1,⟨[p 1 1],[(1,.box none [.one 1 (.st 0)])],2,false⟩),(.ret,⟨[e 2 .bool],[],1,false⟩)],.c 118 [(.normal,⟨[p 1 1,e 3 (.int .i64),e 65 .bool],[(1,.box none [.one 1 (.st 0)])],2,false⟩)]] [enP (zeo k),enP h1] (by kernel_rfl) fun _=>by kernel_rfl
def P86 (k:Nat):Nat→ {e:E86 // FOk (S:=SyS) prog 86 [.val (.st 0)] [.val .bool] e}
 | 0=>⟨fun _=>none,fun _ _ h=>nomatch h⟩
 | d+1=>⟨zlj k (P86 k d).1,zlN k _ (P86 k d).2⟩
def G86 (k:Nat):E86:=(P86 k k).1
theorem zos (k:Nat):FOk (S:=SyS) prog 86 [.val (.st 0)] [.val .bool] (G86 k):=(P86 k k).2
abbrev E87:=(RxT×Unit)→(Option (Int×Unit))
def zmC (k:Nat)(e:E87):LB (Int×Int×RxT×Unit) (Int×Unit):=fun (v0,v1,v2,_)=>
 (bif decide (v1<((RxT.a v2).length:Int)) then
  (at? (RxT.a v2) v1).bind fun v3=>
  (e (v3,())).bind fun (v4,_)=>
  some (.inl ((w64 (v0+v4)),(w64 (v1+(1:Int))),v2,()))
 else
  some (.inr (v0,())))
def zli (k:Nat)(e:E87):RxT×Unit→(Option (Int×Unit)):=fun (a0,_)=>
 (iter k (zmC k e) ((1:Int),(0:Int),a0,())).bind fun (v5,_)=>
 some (v5,())
theorem zlM (k:Nat)(e1:E87)(h1:FOk (S:=SyS) prog 87 [.val (.st 0)] [.val (.int .i64)] e1):FOk (S:=SyS) prog 87 [.val (.st 0)] [.val (.int .i64)] (zli k e1):=FOk.mk (k:=k) [.l ⟨[p 1 1,e 3 (.int .i64),e 4 (.int .i64)],[(1,.box none [.one 1 (.st 0)])],2,false⟩ [(.exit 0,⟨[e 3 (.int .i64)],[],1,false⟩)]] [enP h1] (by kernel_rfl) fun _=>by kernel_rfl
def P87 (k:Nat):Nat→ {e:E87 // FOk (S:=SyS) prog 87 [.val (.st 0)] [.val (.int .i64)] e}
 | 0=>⟨fun _=>none,fun _ _ h=>nomatch h⟩
 | d+1=>⟨zli k (P87 k d).1,zlM k _ (P87 k d).2⟩
def G87 (k:Nat):E87:=(P87 k k).1
theorem zor (k:Nat):FOk (S:=SyS) prog 87 [.val (.st 0)] [.val (.int .i64)] (G87 k):=(P87 k k).2
abbrev E88:=(RxT×Unit)→(Option (Int×Unit))
def zmB (k:Nat)(e:E88):LB (Int×Int×RxT×Unit) (Int×Unit):=fun (v0,v1,v2,_)=>
 (bif decide (v1<((RxT.a v2).length:Int)) then
  (at? (RxT.a v2) v1).bind fun v3=>
  (e (v3,())).bind fun (v4,_)=>
  some (.inl ((if (true=true) then (if v4>v0 then v4 else v0) else (if v4<v0 then v4 else v0)),(w64 (v1+(1:Int))),v2,()))
 else
  some (.inr (v0,())))
def zlh (k:Nat)(e:E88):RxT×Unit→(Option (Int×Unit)):=fun (a0,_)=>
 (iter k (zmB k e) ((0:Int),(0:Int),a0,())).bind fun (v5,_)=>
 some ((w64 (v5+(1:Int))),())
theorem zlL (k:Nat)(e1:E88)(h1:FOk (S:=SyS) prog 88 [.val (.st 0)] [.val (.int .i64)] e1):FOk (S:=SyS) prog 88 [.val (.st 0)] [.val (.int .i64)] (zlh k e1):=FOk.mk (k:=k) [.l ⟨[p 1 1,e 3 (.int .i64),e 4 (.int .i64)],[(1,.box none [.one 1 (.st 0)])],2,false⟩ [(.exit 0,⟨[e 3 (.int .i64)],[],1,false⟩)]] [enP h1] (by kernel_rfl) fun _=>by kernel_rfl
def P88 (k:Nat):Nat→ {e:E88 // FOk (S:=SyS) prog 88 [.val (.st 0)] [.val (.int .i64)] e}
 | 0=>⟨fun _=>none,fun _ _ h=>nomatch h⟩
 | d+1=>⟨zlh k (P88 k d).1,zlL k _ (P88 k d).2⟩
def G88 (k:Nat):E88:=(P88 k k).1
theorem zoq (k:Nat):FOk (S:=SyS) prog 88 [.val (.st 0)] [.val (.int .i64)] (G88 k):=(P88 k k).2
def G64 (k:Nat):RxT×Unit→(Option (Int×Unit)):=fun (a0,_)=>
 (G86 k (a0,())).bind fun (v0,_)=>
 (bif (!v0) then
  some ((2:Int),())
 else
  ((G87 k (a0,())).bind fun (v1,_)=>
   (bif decide (v1>(40:Int)) then
    some (true,())
   else
    (G88 k (a0,())).bind fun (v2,_)=>
    some (decide (v2>(12:Int)),()))).bind fun (v3,_)=>
  (bif v3 then
   some ((6:Int),())
  else
   some ((0:Int),())))
theorem zkS (k:Nat):FOk (S:=SyS) prog 64 [.val (.st 0)] [.val (.int .i64)] (G64 k):=FOk.mk (k:=k) [.c 19 [(.normal,⟨[e 13 .bool],[],1,false⟩)]] [enP (zos k),enP (zor k),enP (zoq k)] (by kernel_rfl) fun _=>by kernel_rfl
def G81 (k:Nat):(List UInt8)×Unit→(Option (RxT×Int×Unit)):=fun (a0,_)=>
 (G96 k ((a0,(0:Int),(0:Int),(0:Int),()),())).bind fun (v0,v1,_)=>
 ((bif (v0.2.2.2.1==(0:Int)) then
   some (decide (v0.2.1<(a0.length:Int)),(0:Int),(⟨([0,0,0,0]:List Int),rfl⟩:zh),v0,v1,())
  else
   some (false,(0:Int),(⟨([0,0,0,0]:List Int),rfl⟩:zh),v0,v1,()))).bind fun (v2,v3,v4,v5,v6,_)=>
 ((bif v2 then
   (G97 k (v5,(2:Int),())).bind fun (v7,_)=>
   some (v3,v4,v7,v6,())
  else
   some (v3,v4,v5,v6,()))).bind fun (v8,v9,v10,v11,_)=>
 ((bif (v10.2.2.2.1==(0:Int)) then
   (G64 k (v11,())).bind fun (v12,_)=>
   (G97 k (v10,v12,())).bind fun (v13,_)=>
   some (v8,v9,v13,v11,())
  else
   some (v8,v9,v10,v11,()))).bind fun (v14,v15,v16,v17,_)=>
 (bif (v16.2.2.2.1 != (0:Int)) then
  some ((RxT.mk (0:Int) (⟨([0,0,0,0]:List Int),rfl⟩:zh) ([]:List RxT)),v16.2.2.2.1,())
 else
  some (v17,(0:Int),()))
theorem zox (k:Nat):FOk (S:=SyS) prog 81 [.val (.str)] [.val (.st 0),.val (.int .i64)] (G81 k):=FOk.mk (k:=k) [.c 21 [(.normal,⟨[p 2 1,p 4 2,p 5 3,e 24 .bool],[(1,.box none [.one 1 (.int .i64),.one 1 (.arr 4 .u64),.nil]),(2,.box none [.one 1 (.st 16)]),(3,.box none [.one 1 (.st 0)])],4,false⟩)],.c 37 [(.normal,⟨[p 2 1,p 4 2,p 5 3],[(1,.box none [.one 1 (.int .i64),.one 1 (.arr 4 .u64),.nil]),(2,.box none [.one 1 (.st 16)]),(3,.box none [.one 1 (.st 0)])],4,false⟩)],.c 51 [(.normal,⟨[p 2 1,p 4 2,p 5 3],[(1,.box none [.one 1 (.int .i64),.one 1 (.arr 4 .u64),.nil]),(2,.box none [.one 1 (.st 16)]),(3,.box none [.one 1 (.st 0)])],4,false⟩)]] [enL (zol k),enL (zkL k),enP (zkS k)] (by kernel_rfl) fun _=>by kernel_rfl
def G52 (k:Nat):List (List UInt8)×Int×Int×Bool×Bool×List yd×List ScT×List RuT×List zh×List zh×List (List UInt8)×Unit→(Option (Bool×Int×Int×Bool×Bool×(List yd)×(List ScT)×(List RuT)×(List zh)×(List zh)×(List (List UInt8))×Unit)):=fun (a0,a1,a2,a3,a4,a5,a6,a7,a8,a9,a10,_)=>
 ((bif ((a0.length:Int) != (4:Int)) then
   some (a0,true,a1,a2,a3,a4,a5,a6,a7,a8,a9,a10,())
  else
   (at? a0 (2:Int)).bind fun v0=>
   (bif (!(v0==([61]:List UInt8))) then
    some (a0,true,a1,a2,a3,a4,a5,a6,a7,a8,a9,a10,())
   else
    (at? a0 (1:Int)).bind fun v1=>
    (G32 k (v1,())).bind fun (v2,_)=>
    some (a0,(!v2),a1,a2,a3,a4,a5,a6,a7,a8,a9,a10,())))).bind fun (v3,v4,v5,v6,v7,v8,v9,v10,v11,v12,v13,v14,_)=>
 (bif v4 then
  some (false,v5,v6,v7,v8,v9,v10,v11,v12,v13,v14,())
 else
  (at? v3 (3:Int)).bind fun v15=>
  (G81 k (v15,())).bind fun (v16,v17,_)=>
  (at? v3 (1:Int)).bind fun v18=>
  (at? v3 (0:Int)).bind fun v19=>
  room ((List.length v9)+(List.length ([(v18,v16,(v19==([116,114,105,118,105,97]:List UInt8)),())]:List yd))) 88 (some ((v17==(0:Int)),v5,v6,v7,v8,(v9++([(v18,v16,(v19==([116,114,105,118,105,97]:List UInt8)),())]:List yd)),v10,v11,v12,v13,v14,())))
theorem zoP (k:Nat):HOk (S:=SyS) prog 52 Vo Vn (G52 k):=HOk.mk (k:=k) [.c 6 [(.normal,⟨[p 0 0,(1,.b (.one 4 (.list .str))),e 22 .bool],[(0,.box (some 0) [.whole 1,.nil,.whole 2,.whole 3,.whole 4,.whole 5,.one 1 (.int .i64),.whole 6,.one 1 (.int .i64),.one 1 .bool,.one 1 .bool]),(1,.row 4 (.st 1)),(2,.row 4 (.st 2)),(3,.row 4 (.st 3)),(4,.row 4 (.arr 4 .u64)),(5,.row 4 (.arr 4 .u64)),(6,.row 4 .str)],7,true⟩)],.e 59 (.st 1),.e 60 (.st 1)] [enP (zdl k),enP (zox k)] (by kernel_rfl) (by kernel_rfl) fun _=>by kernel_rfl
def G83 (k:Nat):Unit→(Option ((Option Nat)×Unit)):=fun _=>
 some ((Option.some (Int.toNat (9221120237041090561:Int))),())
theorem zov (k:Nat):FOk (S:=SyS) prog 83 [] [.val .flt] (G83 k):=FOk.mk (k:=k) [] [] (by kernel_rfl) fun _=>by kernel_rfl
def G84 (k:Nat):Int×Unit→(Option ((Option Nat)×Unit)):=fun (a0,_)=>
 ((bif decide (a0≥(0:Int)) then
   some ((9218868437227405312:Int),())
  else
   some ((18442240474082181120:Int),()))).bind fun (v0,_)=>
 some ((Option.some (Int.toNat v0)),())
theorem zou (k:Nat):FOk (S:=SyS) prog 84 [.val (.int .i64)] [.val .flt] (G84 k):=FOk.mk (k:=k) [.c 14 [(.normal,⟨[e 3 (.int .u64)],[],1,false⟩)]] [] (by kernel_rfl) fun _=>by kernel_rfl
def G85 (k:Nat):Fl×Fl×Unit→(Option ((Option Nat)×Unit)):=fun (a0,a1,_)=>
 (zeU a0 (fun v0=>(zeU a1 (fun v1=>(Option.some ((Option.some (Int.toNat (IntKind.u64.wrap (((BitVec.toNat ((BitVec.ofInt (Go.IntKind.bits Go.IntKind.u64) (IntKind.u64.wrap (((BitVec.toNat ((BitVec.ofInt (Go.IntKind.bits Go.IntKind.u64) ((v0:Nat):Int)) &&& (Complement.complement (BitVec.ofInt (Go.IntKind.bits Go.IntKind.u64) (9223372036854775808:Int))))):Nat):Int))) ||| (BitVec.ofInt (Go.IntKind.bits Go.IntKind.u64) (IntKind.u64.wrap (((BitVec.toNat ((BitVec.ofInt (Go.IntKind.bits Go.IntKind.u64) ((v1:Nat):Int)) &&& (BitVec.ofInt (Go.IntKind.bits Go.IntKind.u64) (9223372036854775808:Int)))):Nat):Int))))):Nat):Int)))),()))) (Option.none))) (Option.none))
theorem zot (k:Nat):FOk (S:=SyS) prog 85 [.val (.flt),.val (.flt)] [.val .flt] (G85 k):=FOk.mk (k:=k) [] [] (by kernel_rfl) fun _=>by kernel_rfl
def zm9 (k:Nat):LB ((List UInt8)×Bool×Int×za) (((List UInt8)×Bool×za) ⊕ ((Option Nat)×Int×Unit)):=fun (v15,v16,v17,v18,v19,v20,_)=>
 (bif decide (v20<(v15.length:Int)) then
  ((at? v15 v20).bind fun v21=>
   (bif ((((UInt8.toNat v21):Nat):Int)==(46:Int)) then
    (bif decide (v19<(0:Int)) then
     some (v15,v16,v17,v18,v19,v20,decide (v20>(0:Int)),())
    else
     some (v15,v16,v17,v18,v19,v20,false,()))
   else
    some (v15,v16,v17,v18,v19,v20,false,()))).bind fun (v22,v23,v24,v25,v26,v27,v28,_)=>
  ((bif v28 then
    some (.inl (v22,v23,v24,v25,v27,v27,()))
   else
    ((at? v22 v27).bind fun v29=>
     (bif decide ((((UInt8.toNat v29):Nat):Int)≥(48:Int)) then
      (at? v22 v27).bind fun v30=>
      (bif decide ((((UInt8.toNat v30):Nat):Int)≤(57:Int)) then
       some (v22,v23,v24,v25,v26,v27,decide (v25<(15:Int)),())
      else
       some (v22,v23,v24,v25,v26,v27,false,()))
     else
      some (v22,v23,v24,v25,v26,v27,false,()))).bind fun (v31,v32,v33,v34,v35,v36,v37,_)=>
    (bif v37 then
     (at? v31 v36).bind fun v38=>
     some (.inl (v31,v32,(w64 ((w64 (v33*(10:Int)))+(w64 (IntKind.u8.wrap ((((UInt8.toNat v38):Nat):Int)-(48:Int)))))),(w64 (v34+(1:Int))),v35,v36,()))
    else
     some (.inr ((Option.some 0),(2:Int),())))):Option (((List UInt8)×Bool×Int×za) ⊕ ((Option Nat)×Int×Unit))).bind fun
  | .inl (v39,v40,v41,v42,v43,v44,_)=>some (.inl (v39,v40,v41,v42,v43,(w64 (v44+(1:Int))),()))
  | .inr (v45,v46,_)=>some (.inr (.inr (v45,v46,())))
 else
  some (.inr (.inl (v15,v16,v17,v18,v19,()))))
def zm8 (k:Nat):LB ((List UInt8)×Bool×Int×za) (Bool×zI):=fun (v57,v58,v59,v60,v61,v62,_)=>
 ((bif decide (v60≥(0:Int)) then
   some (v57,v58,v59,v60,v61,v62,decide (v62<(v57.length:Int)),())
  else
   some (v57,v58,v59,v60,v61,v62,false,()))).bind fun (v63,v64,v65,v66,v67,v68,v69,_)=>
 (bif v69 then
  some (.inl (v63,v64,v65,v66,(w64 (v67*(10:Int))),(w64 (v68+(1:Int))),()))
 else
  some (.inr (v64,v65,v67,())))
def G60 (k:Nat):(List UInt8)×Unit→(Option ((Option Nat)×Int×Unit)):=fun (a0,_)=>
 ((bif (a0==([110,97,110]:List UInt8)) then
   (G83 k ()).bind fun (v0,_)=>
   some (.inl (v0,(0:Int),()))
  else
   ((bif (a0==([105,110,102]:List UInt8)) then
     (G84 k ((1:Int),())).bind fun (v1,_)=>
     some (.inl (v1,(0:Int),()))
    else
     (bif (a0==([45,105,110,102]:List UInt8)) then
      (G84 k ((-(1:Int)),())).bind fun (v2,_)=>
      some (.inl (v2,(0:Int),()))
     else
      some (.inr (a0,())))):Option (((Option Nat)×Int×Unit) ⊕ ((List UInt8)×Unit))).bind fun
   | .inl (v3,v4,_)=>some (.inl (v3,v4,()))
   | .inr (v5,_)=>some (.inr (v5,()))):Option (((Option Nat)×Int×Unit) ⊕ ((List UInt8)×Unit))).bind fun
 | .inl (v6,v7,_)=>some (v6,v7,())
 | .inr (v8,_)=>((bif decide ((v8.length:Int)>(0:Int)) then
    (at? v8 (0:Int)).bind fun v9=>
    some (v8,((((UInt8.toNat v9):Nat):Int)==(45:Int)),())
   else
    some (v8,false,()))).bind fun (v10,v11,_)=>
  ((bif v11 then
    (hi? (List.length v10) (1:Int)).bind fun v12=>
    some ((slC (Option.some (1:Int)) (Option.none) v12 (List.length v10) v10),v11,())
   else
    some (v10,v11,()))).bind fun (v13,v14,_)=>
  (iter k (zm9 k) (v13,v14,(0:Int),(0:Int),(-(1:Int)),(0:Int),())).bind fun
  | .inl (v47,v48,v49,v50,v51,_)=>((bif (v50==(0:Int)) then
     some (v47,v48,v49,v51,true,())
    else
     (bif (v51==(w64 ((v47.length:Int)-(1:Int)))) then
      some (v47,v48,v49,v51,decide (v51≥(0:Int)),())
     else
      some (v47,v48,v49,v51,false,())))).bind fun (v52,v53,v54,v55,v56,_)=>
   (bif v56 then
    some ((Option.some 0),(2:Int),())
   else
    (iter k (zm8 k) (v52,v53,v54,v55,(1:Int),(w64 (v55+(1:Int))),())).bind fun (v70,v71,v72,_)=>
    ((bif v70 then
      (G85 k ((Option.getD.match_1 (fun v73=>(Option Nat)) (Ieee.Datum.sum.match_1 (fun v74 v75=>(Option Ieee.Datum)) (Decidable.rec (fun v76=>(Decidable.rec (fun v77=>(Decidable.rec (fun v78=>(Ieee.Datum.nan ((((Go.FloatKind.nearest Go.FloatKind.f64 v71) / (Ieee.Format.signWeight (Ieee.Format.mk 11 52))) % 2)==1) (((Go.FloatKind.nearest Go.FloatKind.f64 v71) % (Ieee.Format.signWeight (Ieee.Format.mk 11 52)))-(Ieee.Format.infRung (Ieee.Format.mk 11 52))))) (fun v79=>(Ieee.Datum.infinity ((((Go.FloatKind.nearest Go.FloatKind.f64 v71) / (Ieee.Format.signWeight (Ieee.Format.mk 11 52))) % 2)==1))) (Nat.decEq.match_1 (fun v80=>(Decidable (((Go.FloatKind.nearest Go.FloatKind.f64 v71) % (Ieee.Format.signWeight (Ieee.Format.mk 11 52)))=(Ieee.Format.infRung (Ieee.Format.mk 11 52))))) (Nat.beq ((Go.FloatKind.nearest Go.FloatKind.f64 v71) % (Ieee.Format.signWeight (Ieee.Format.mk 11 52))) (Ieee.Format.infRung (Ieee.Format.mk 11 52))) (fun v81=>(Decidable.isTrue (Nat.eq_of_beq_eq_true v81))) (fun v82=>(Decidable.isFalse (Nat.ne_of_beq_eq_false v82)))))) (fun v83=>(Ieee.Datum.number ((((Go.FloatKind.nearest Go.FloatKind.f64 v71) / (Ieee.Format.signWeight (Ieee.Format.mk 11 52))) % 2)==1) ((Ieee.Format.binade (Ieee.Format.mk 11 52))+(((Go.FloatKind.nearest Go.FloatKind.f64 v71) % (Ieee.Format.signWeight (Ieee.Format.mk 11 52))) % (Ieee.Format.binade (Ieee.Format.mk 11 52)))) ((Ieee.Format.leastPlace (Ieee.Format.mk 11 52))+((((((Go.FloatKind.nearest Go.FloatKind.f64 v71) % (Ieee.Format.signWeight (Ieee.Format.mk 11 52))) / (Ieee.Format.binade (Ieee.Format.mk 11 52)))-1):Nat):Int)))) (Decidable.rec (fun v84=>(Decidable.isFalse (Nat.not_le_of_not_ble_eq_true v84))) (fun v85=>(Decidable.isTrue (Nat.le_of_ble_eq_true v85))) (Bool.decEq.match_1 (fun v86 v87=>(Decidable (v86=v87))) (Nat.ble (Nat.succ ((Go.FloatKind.nearest Go.FloatKind.f64 v71) % (Ieee.Format.signWeight (Ieee.Format.mk 11 52)))) (Ieee.Format.infRung (Ieee.Format.mk 11 52))) true (fun _=>(Decidable.isTrue (rfl))) (fun _=>(Decidable.isFalse (fun v88=>(Bool.noConfusion v88)))) (fun _=>(Decidable.isFalse (fun v89=>(Bool.noConfusion v89)))) (fun _=>(Decidable.isTrue (rfl))))))) (fun v90=>(Ieee.Datum.number ((((Go.FloatKind.nearest Go.FloatKind.f64 v71) / (Ieee.Format.signWeight (Ieee.Format.mk 11 52))) % 2)==1) ((Go.FloatKind.nearest Go.FloatKind.f64 v71) % (Ieee.Format.signWeight (Ieee.Format.mk 11 52))) (Ieee.Format.leastPlace (Ieee.Format.mk 11 52)))) (Decidable.rec (fun v91=>(Decidable.isFalse (Nat.not_le_of_not_ble_eq_true v91))) (fun v92=>(Decidable.isTrue (Nat.le_of_ble_eq_true v92))) (Bool.decEq.match_1 (fun v93 v94=>(Decidable (v93=v94))) (Nat.ble (Nat.succ ((Go.FloatKind.nearest Go.FloatKind.f64 v71) % (Ieee.Format.signWeight (Ieee.Format.mk 11 52)))) (Ieee.Format.binade (Ieee.Format.mk 11 52))) true (fun _=>(Decidable.isTrue (rfl))) (fun _=>(Decidable.isFalse (fun v95=>(Bool.noConfusion v95)))) (fun _=>(Decidable.isFalse (fun v96=>(Bool.noConfusion v96)))) (fun _=>(Decidable.isTrue (rfl)))))) (Decidable.rec (fun v97=>(Decidable.rec (fun v98=>(Decidable.rec (fun v99=>(Ieee.Datum.nan ((((Go.FloatKind.nearest Go.FloatKind.f64 v72) / (Ieee.Format.signWeight (Ieee.Format.mk 11 52))) % 2)==1) (((Go.FloatKind.nearest Go.FloatKind.f64 v72) % (Ieee.Format.signWeight (Ieee.Format.mk 11 52)))-(Ieee.Format.infRung (Ieee.Format.mk 11 52))))) (fun v100=>(Ieee.Datum.infinity ((((Go.FloatKind.nearest Go.FloatKind.f64 v72) / (Ieee.Format.signWeight (Ieee.Format.mk 11 52))) % 2)==1))) (Nat.decEq.match_1 (fun v101=>(Decidable (((Go.FloatKind.nearest Go.FloatKind.f64 v72) % (Ieee.Format.signWeight (Ieee.Format.mk 11 52)))=(Ieee.Format.infRung (Ieee.Format.mk 11 52))))) (Nat.beq ((Go.FloatKind.nearest Go.FloatKind.f64 v72) % (Ieee.Format.signWeight (Ieee.Format.mk 11 52))) (Ieee.Format.infRung (Ieee.Format.mk 11 52))) (fun v102=>(Decidable.isTrue (Nat.eq_of_beq_eq_true v102))) (fun v103=>(Decidable.isFalse (Nat.ne_of_beq_eq_false v103)))))) (fun v104=>(Ieee.Datum.number ((((Go.FloatKind.nearest Go.FloatKind.f64 v72) / (Ieee.Format.signWeight (Ieee.Format.mk 11 52))) % 2)==1) ((Ieee.Format.binade (Ieee.Format.mk 11 52))+(((Go.FloatKind.nearest Go.FloatKind.f64 v72) % (Ieee.Format.signWeight (Ieee.Format.mk 11 52))) % (Ieee.Format.binade (Ieee.Format.mk 11 52)))) ((Ieee.Format.leastPlace (Ieee.Format.mk 11 52))+((((((Go.FloatKind.nearest Go.FloatKind.f64 v72) % (Ieee.Format.signWeight (Ieee.Format.mk 11 52))) / (Ieee.Format.binade (Ieee.Format.mk 11 52)))-1):Nat):Int)))) (Decidable.rec (fun v105=>(Decidable.isFalse (Nat.not_le_of_not_ble_eq_true v105))) (fun v106=>(Decidable.isTrue (Nat.le_of_ble_eq_true v106))) (Bool.decEq.match_1 (fun v107 v108=>(Decidable (v107=v108))) (Nat.ble (Nat.succ ((Go.FloatKind.nearest Go.FloatKind.f64 v72) % (Ieee.Format.signWeight (Ieee.Format.mk 11 52)))) (Ieee.Format.infRung (Ieee.Format.mk 11 52))) true (fun _=>(Decidable.isTrue (rfl))) (fun _=>(Decidable.isFalse (fun v109=>(Bool.noConfusion v109)))) (fun _=>(Decidable.isFalse (fun v110=>(Bool.noConfusion v110)))) (fun _=>(Decidable.isTrue (rfl))))))) (fun v111=>(Ieee.Datum.number ((((Go.FloatKind.nearest Go.FloatKind.f64 v72) / (Ieee.Format.signWeight (Ieee.Format.mk 11 52))) % 2)==1) ((Go.FloatKind.nearest Go.FloatKind.f64 v72) % (Ieee.Format.signWeight (Ieee.Format.mk 11 52))) (Ieee.Format.leastPlace (Ieee.Format.mk 11 52)))) (Decidable.rec (fun v112=>(Decidable.isFalse (Nat.not_le_of_not_ble_eq_true v112))) (fun v113=>(Decidable.isTrue (Nat.le_of_ble_eq_true v113))) (Bool.decEq.match_1 (fun v114 v115=>(Decidable (v114=v115))) (Nat.ble (Nat.succ ((Go.FloatKind.nearest Go.FloatKind.f64 v72) % (Ieee.Format.signWeight (Ieee.Format.mk 11 52)))) (Ieee.Format.binade (Ieee.Format.mk 11 52))) true (fun _=>(Decidable.isTrue (rfl))) (fun _=>(Decidable.isFalse (fun v116=>(Bool.noConfusion v116)))) (fun _=>(Decidable.isFalse (fun v117=>(Bool.noConfusion v117)))) (fun _=>(Decidable.isTrue (rfl)))))) (fun v118 v119 v120=>(Option.none)) (fun v121 v122 v123=>(Option.none)) (fun v124 v125=>(Option.none)) (fun v126 v127 v128 v129=>(Option.some (Ieee.Datum.infinity (Bool.xor v126 v127)))) (fun v130 v131 v132 v133=>(Option.some (Ieee.Datum.number (Bool.xor v130 v133) 0 (0:Int)))) (fun v134 v135 v136 v137 v138 v139=>(Decidable.rec (fun v140=>(Option.some (Ieee.Datum.number (Bool.xor v134 v137) ((2*((v135 <<< (((52+2)+(Nat.log2 v138))-(Nat.log2 v135))) / v138))+(Bool.toNat (((v135 <<< (((52+2)+(Nat.log2 v138))-(Nat.log2 v135))) % v138) != 0))) (((v136-v139)-(((((52+2)+(Nat.log2 v138))-(Nat.log2 v135)):Nat):Int))-(1:Int))))) (fun v141=>(Decidable.rec (fun v142=>(Option.some (Ieee.Datum.infinity (Bool.xor v134 v137)))) (fun v143=>(Option.none)) (Nat.decEq.match_1 (fun v144=>(Decidable (v135=0))) (Nat.beq v135 0) (fun v145=>(Decidable.isTrue (Nat.eq_of_beq_eq_true v145))) (fun v146=>(Decidable.isFalse (Nat.ne_of_beq_eq_false v146)))))) (Nat.decEq.match_1 (fun v147=>(Decidable (v138=0))) (Nat.beq v138 0) (fun v148=>(Decidable.isTrue (Nat.eq_of_beq_eq_true v148))) (fun v149=>(Decidable.isFalse (Nat.ne_of_beq_eq_false v149))))))) (fun v150=>(Option.some (Ieee.Format.write (Ieee.Format.mk 11 52) v150))) (fun _=>(Option.none))),(Option.some 13830554455654793216),())).bind fun (v151,_)=>
      some (v151,())
     else
      some ((Option.getD.match_1 (fun v152=>(Option Nat)) (Ieee.Datum.sum.match_1 (fun v153 v154=>(Option Ieee.Datum)) (Decidable.rec (fun v155=>(Decidable.rec (fun v156=>(Decidable.rec (fun v157=>(Ieee.Datum.nan ((((Go.FloatKind.nearest Go.FloatKind.f64 v71) / (Ieee.Format.signWeight (Ieee.Format.mk 11 52))) % 2)==1) (((Go.FloatKind.nearest Go.FloatKind.f64 v71) % (Ieee.Format.signWeight (Ieee.Format.mk 11 52)))-(Ieee.Format.infRung (Ieee.Format.mk 11 52))))) (fun v158=>(Ieee.Datum.infinity ((((Go.FloatKind.nearest Go.FloatKind.f64 v71) / (Ieee.Format.signWeight (Ieee.Format.mk 11 52))) % 2)==1))) (Nat.decEq.match_1 (fun v159=>(Decidable (((Go.FloatKind.nearest Go.FloatKind.f64 v71) % (Ieee.Format.signWeight (Ieee.Format.mk 11 52)))=(Ieee.Format.infRung (Ieee.Format.mk 11 52))))) (Nat.beq ((Go.FloatKind.nearest Go.FloatKind.f64 v71) % (Ieee.Format.signWeight (Ieee.Format.mk 11 52))) (Ieee.Format.infRung (Ieee.Format.mk 11 52))) (fun v160=>(Decidable.isTrue (Nat.eq_of_beq_eq_true v160))) (fun v161=>(Decidable.isFalse (Nat.ne_of_beq_eq_false v161)))))) (fun v162=>(Ieee.Datum.number ((((Go.FloatKind.nearest Go.FloatKind.f64 v71) / (Ieee.Format.signWeight (Ieee.Format.mk 11 52))) % 2)==1) ((Ieee.Format.binade (Ieee.Format.mk 11 52))+(((Go.FloatKind.nearest Go.FloatKind.f64 v71) % (Ieee.Format.signWeight (Ieee.Format.mk 11 52))) % (Ieee.Format.binade (Ieee.Format.mk 11 52)))) ((Ieee.Format.leastPlace (Ieee.Format.mk 11 52))+((((((Go.FloatKind.nearest Go.FloatKind.f64 v71) % (Ieee.Format.signWeight (Ieee.Format.mk 11 52))) / (Ieee.Format.binade (Ieee.Format.mk 11 52)))-1):Nat):Int)))) (Decidable.rec (fun v163=>(Decidable.isFalse (Nat.not_le_of_not_ble_eq_true v163))) (fun v164=>(Decidable.isTrue (Nat.le_of_ble_eq_true v164))) (Bool.decEq.match_1 (fun v165 v166=>(Decidable (v165=v166))) (Nat.ble (Nat.succ ((Go.FloatKind.nearest Go.FloatKind.f64 v71) % (Ieee.Format.signWeight (Ieee.Format.mk 11 52)))) (Ieee.Format.infRung (Ieee.Format.mk 11 52))) true (fun _=>(Decidable.isTrue (rfl))) (fun _=>(Decidable.isFalse (fun v167=>(Bool.noConfusion v167)))) (fun _=>(Decidable.isFalse (fun v168=>(Bool.noConfusion v168)))) (fun _=>(Decidable.isTrue (rfl))))))) (fun v169=>(Ieee.Datum.number ((((Go.FloatKind.nearest Go.FloatKind.f64 v71) / (Ieee.Format.signWeight (Ieee.Format.mk 11 52))) % 2)==1) ((Go.FloatKind.nearest Go.FloatKind.f64 v71) % (Ieee.Format.signWeight (Ieee.Format.mk 11 52))) (Ieee.Format.leastPlace (Ieee.Format.mk 11 52)))) (Decidable.rec (fun v170=>(Decidable.isFalse (Nat.not_le_of_not_ble_eq_true v170))) (fun v171=>(Decidable.isTrue (Nat.le_of_ble_eq_true v171))) (Bool.decEq.match_1 (fun v172 v173=>(Decidable (v172=v173))) (Nat.ble (Nat.succ ((Go.FloatKind.nearest Go.FloatKind.f64 v71) % (Ieee.Format.signWeight (Ieee.Format.mk 11 52)))) (Ieee.Format.binade (Ieee.Format.mk 11 52))) true (fun _=>(Decidable.isTrue (rfl))) (fun _=>(Decidable.isFalse (fun v174=>(Bool.noConfusion v174)))) (fun _=>(Decidable.isFalse (fun v175=>(Bool.noConfusion v175)))) (fun _=>(Decidable.isTrue (rfl)))))) (Decidable.rec (fun v176=>(Decidable.rec (fun v177=>(Decidable.rec (fun v178=>(Ieee.Datum.nan ((((Go.FloatKind.nearest Go.FloatKind.f64 v72) / (Ieee.Format.signWeight (Ieee.Format.mk 11 52))) % 2)==1) (((Go.FloatKind.nearest Go.FloatKind.f64 v72) % (Ieee.Format.signWeight (Ieee.Format.mk 11 52)))-(Ieee.Format.infRung (Ieee.Format.mk 11 52))))) (fun v179=>(Ieee.Datum.infinity ((((Go.FloatKind.nearest Go.FloatKind.f64 v72) / (Ieee.Format.signWeight (Ieee.Format.mk 11 52))) % 2)==1))) (Nat.decEq.match_1 (fun v180=>(Decidable (((Go.FloatKind.nearest Go.FloatKind.f64 v72) % (Ieee.Format.signWeight (Ieee.Format.mk 11 52)))=(Ieee.Format.infRung (Ieee.Format.mk 11 52))))) (Nat.beq ((Go.FloatKind.nearest Go.FloatKind.f64 v72) % (Ieee.Format.signWeight (Ieee.Format.mk 11 52))) (Ieee.Format.infRung (Ieee.Format.mk 11 52))) (fun v181=>(Decidable.isTrue (Nat.eq_of_beq_eq_true v181))) (fun v182=>(Decidable.isFalse (Nat.ne_of_beq_eq_false v182)))))) (fun v183=>(Ieee.Datum.number ((((Go.FloatKind.nearest Go.FloatKind.f64 v72) / (Ieee.Format.signWeight (Ieee.Format.mk 11 52))) % 2)==1) ((Ieee.Format.binade (Ieee.Format.mk 11 52))+(((Go.FloatKind.nearest Go.FloatKind.f64 v72) % (Ieee.Format.signWeight (Ieee.Format.mk 11 52))) % (Ieee.Format.binade (Ieee.Format.mk 11 52)))) ((Ieee.Format.leastPlace (Ieee.Format.mk 11 52))+((((((Go.FloatKind.nearest Go.FloatKind.f64 v72) % (Ieee.Format.signWeight (Ieee.Format.mk 11 52))) / (Ieee.Format.binade (Ieee.Format.mk 11 52)))-1):Nat):Int)))) (Decidable.rec (fun v184=>(Decidable.isFalse (Nat.not_le_of_not_ble_eq_true v184))) (fun v185=>(Decidable.isTrue (Nat.le_of_ble_eq_true v185))) (Bool.decEq.match_1 (fun v186 v187=>(Decidable (v186=v187))) (Nat.ble (Nat.succ ((Go.FloatKind.nearest Go.FloatKind.f64 v72) % (Ieee.Format.signWeight (Ieee.Format.mk 11 52)))) (Ieee.Format.infRung (Ieee.Format.mk 11 52))) true (fun _=>(Decidable.isTrue (rfl))) (fun _=>(Decidable.isFalse (fun v188=>(Bool.noConfusion v188)))) (fun _=>(Decidable.isFalse (fun v189=>(Bool.noConfusion v189)))) (fun _=>(Decidable.isTrue (rfl))))))) (fun v190=>(Ieee.Datum.number ((((Go.FloatKind.nearest Go.FloatKind.f64 v72) / (Ieee.Format.signWeight (Ieee.Format.mk 11 52))) % 2)==1) ((Go.FloatKind.nearest Go.FloatKind.f64 v72) % (Ieee.Format.signWeight (Ieee.Format.mk 11 52))) (Ieee.Format.leastPlace (Ieee.Format.mk 11 52)))) (Decidable.rec (fun v191=>(Decidable.isFalse (Nat.not_le_of_not_ble_eq_true v191))) (fun v192=>(Decidable.isTrue (Nat.le_of_ble_eq_true v192))) (Bool.decEq.match_1 (fun v193 v194=>(Decidable (v193=v194))) (Nat.ble (Nat.succ ((Go.FloatKind.nearest Go.FloatKind.f64 v72) % (Ieee.Format.signWeight (Ieee.Format.mk 11 52)))) (Ieee.Format.binade (Ieee.Format.mk 11 52))) true (fun _=>(Decidable.isTrue (rfl))) (fun _=>(Decidable.isFalse (fun v195=>(Bool.noConfusion v195)))) (fun _=>(Decidable.isFalse (fun v196=>(Bool.noConfusion v196)))) (fun _=>(Decidable.isTrue (rfl)))))) (fun v197 v198 v199=>(Option.none)) (fun v200 v201 v202=>(Option.none)) (fun v203 v204=>(Option.none)) (fun v205 v206 v207 v208=>(Option.some (Ieee.Datum.infinity (Bool.xor v205 v206)))) (fun v209 v210 v211 v212=>(Option.some (Ieee.Datum.number (Bool.xor v209 v212) 0 (0:Int)))) (fun v213 v214 v215 v216 v217 v218=>(Decidable.rec (fun v219=>(Option.some (Ieee.Datum.number (Bool.xor v213 v216) ((2*((v214 <<< (((52+2)+(Nat.log2 v217))-(Nat.log2 v214))) / v217))+(Bool.toNat (((v214 <<< (((52+2)+(Nat.log2 v217))-(Nat.log2 v214))) % v217) != 0))) (((v215-v218)-(((((52+2)+(Nat.log2 v217))-(Nat.log2 v214)):Nat):Int))-(1:Int))))) (fun v220=>(Decidable.rec (fun v221=>(Option.some (Ieee.Datum.infinity (Bool.xor v213 v216)))) (fun v222=>(Option.none)) (Nat.decEq.match_1 (fun v223=>(Decidable (v214=0))) (Nat.beq v214 0) (fun v224=>(Decidable.isTrue (Nat.eq_of_beq_eq_true v224))) (fun v225=>(Decidable.isFalse (Nat.ne_of_beq_eq_false v225)))))) (Nat.decEq.match_1 (fun v226=>(Decidable (v217=0))) (Nat.beq v217 0) (fun v227=>(Decidable.isTrue (Nat.eq_of_beq_eq_true v227))) (fun v228=>(Decidable.isFalse (Nat.ne_of_beq_eq_false v228))))))) (fun v229=>(Option.some (Ieee.Format.write (Ieee.Format.mk 11 52) v229))) (fun _=>(Option.none))),()))).bind fun (v230,_)=>
    some (v230,(0:Int),()))
  | .inr (v231,v232,_)=>some (v231,v232,())
theorem zkU (k:Nat):FOk (S:=SyS) prog 60 [.val (.str)] [.val .flt,.val (.int .i64)] (G60 k):=FOk.mk (k:=k) [.c 16 [(.ret,⟨[e 2 .flt,e 3 (.int .i64)],[],1,false⟩),(.normal,⟨[e 0 .str],[],1,false⟩)],.c 28 [(.ret,⟨[e 2 .flt,e 3 (.int .i64)],[],1,false⟩),(.normal,⟨[e 0 .str],[],1,false⟩)],.c 48 [(.normal,⟨[e 0 .str,e 4 .bool],[],1,false⟩)],.c 64 [(.normal,⟨[e 0 .str,e 4 .bool],[],1,false⟩)],.l ⟨[e 0 .str,e 4 .bool,e 5 (.int .i64),e 6 (.int .i64),e 7 (.int .i64),e 8 (.int .i64)],[],1,false⟩ [(.exit 1,⟨[e 0 .str,e 4 .bool,e 5 (.int .i64),e 6 (.int .i64),e 7 (.int .i64)],[],1,false⟩),(.ret,⟨[e 2 .flt,e 3 (.int .i64)],[],1,false⟩)],.c 96 [(.normal,⟨[e 0 .str,e 4 .bool,e 5 (.int .i64),e 6 (.int .i64),e 7 (.int .i64),e 8 (.int .i64),e 39 .bool],[],1,false⟩)],.c 111 [(.normal,⟨[e 0 .str,e 4 .bool,e 5 (.int .i64),e 6 (.int .i64),e 7 (.int .i64),e 8 (.int .i64)],[],1,false⟩),(.ret,⟨[e 2 .flt,e 3 (.int .i64)],[],1,false⟩)],.c 117 [(.normal,⟨[e 0 .str,e 4 .bool,e 5 (.int .i64),e 6 (.int .i64),e 7 (.int .i64),e 8 (.int .i64),e 53 .bool],[],1,false⟩)],.c 161 [(.normal,⟨[e 0 .str,e 4 .bool,e 5 (.int .i64),e 7 (.int .i64),e 90 .bool],[],1,false⟩)],.l ⟨[e 0 .str,e 4 .bool,e 5 (.int .i64),e 7 (.int .i64),e 9 (.int .i64),e 10 (.int .i64)],[],1,false⟩ [(.exit 4,⟨[e 4 .bool,e 5 (.int .i64),e 9 (.int .i64)],[],1,false⟩)],.c 197 [(.normal,⟨[e 0 .str,e 4 .bool,e 5 (.int .i64),e 7 (.int .i64),e 9 (.int .i64),e 10 (.int .i64),e 100 .bool],[],1,false⟩)],.c 234 [(.normal,⟨[e 11 .flt],[],1,false⟩)]] [enP (zov k),enP (zou k),enP (zot k)] (by kernel_rfl) fun _=>by kernel_rfl
def G53 (k:Nat):List (List UInt8)×Int×Int×Bool×Bool×List yd×List ScT×List RuT×List zh×List zh×List (List UInt8)×Unit→(Option (Bool×Int×Int×Bool×Bool×(List yd)×(List ScT)×(List RuT)×(List zh)×(List zh)×(List (List UInt8))×Unit)):=fun (a0,a1,a2,a3,a4,a5,a6,a7,a8,a9,a10,_)=>
 ((bif ((a0.length:Int) != (4:Int)) then
   some (a0,true,a1,a2,a3,a4,a5,a6,a7,a8,a9,a10,())
  else
   (at? a0 (2:Int)).bind fun v0=>
   (bif (!(v0==([61]:List UInt8))) then
    some (a0,true,a1,a2,a3,a4,a5,a6,a7,a8,a9,a10,())
   else
    (at? a0 (1:Int)).bind fun v1=>
    (G32 k (v1,())).bind fun (v2,_)=>
    some (a0,(!v2),a1,a2,a3,a4,a5,a6,a7,a8,a9,a10,())))).bind fun (v3,v4,v5,v6,v7,v8,v9,v10,v11,v12,v13,v14,_)=>
 (bif v4 then
  some (false,v5,v6,v7,v8,v9,v10,v11,v12,v13,v14,())
 else
  (at? v3 (3:Int)).bind fun v15=>
  (G60 k (v15,())).bind fun (v16,v17,_)=>
  (at? v3 (1:Int)).bind fun v18=>
  (at? v3 (3:Int)).bind fun v19=>
  room ((List.length v10)+(List.length ([(v18,v19,())]:List ScT))) 32 (some ((v17==(0:Int)),v5,v6,v7,v8,v9,(v10++([(v18,v19,())]:List ScT)),v11,v12,v13,v14,())))
theorem zoO (k:Nat):HOk (S:=SyS) prog 53 Vo Vn (G53 k):=HOk.mk (k:=k) [.c 6 [(.normal,⟨[p 0 0,(1,.b (.one 4 (.list .str))),e 22 .bool],[(0,.box (some 0) [.whole 1,.nil,.whole 2,.whole 3,.whole 4,.whole 5,.one 1 (.int .i64),.whole 6,.one 1 (.int .i64),.one 1 .bool,.one 1 .bool]),(1,.row 4 (.st 1)),(2,.row 4 (.st 2)),(3,.row 4 (.st 3)),(4,.row 4 (.arr 4 .u64)),(5,.row 4 (.arr 4 .u64)),(6,.row 4 .str)],7,true⟩)],.e 56 (.st 2),.e 57 (.st 2)] [enP (zdl k),enP (zkU k)] (by kernel_rfl) (by kernel_rfl) fun _=>by kernel_rfl
def zm7 (k:Nat):LB ((List UInt8)×Int×GrT×Unit) (Unit ⊕ (Int×Unit)):=fun (v0,v1,v2,_)=>
 (bif decide (v1<(v2.2.2.1.length:Int)) then
  (at? v2.2.2.1 v1).bind fun v3=>
  (bif (v3.1==v0) then
   some (.inr (.inr (v1,())))
  else
   some (.inl (v0,(w64 (v1+(1:Int))),v2,())))
 else
  some (.inr (.inl ())))
def G61 (k:Nat):GrT×(List UInt8)×Unit→(Option (Int×Unit)):=fun (a0,a1,_)=>
 (iter k (zm7 k) (a1,(0:Int),a0,())).bind fun
 | .inl _=>some ((-(1:Int)),())
 | .inr (v4,_)=>some (v4,())
theorem zkT (k:Nat):FOk (S:=SyS) prog 61 [.val (.st 4),.val (.str)] [.val (.int .i64)] (G61 k):=FOk.mk (k:=k) [.l ⟨[e 1 .str,p 2 1,e 5 (.int .i64)],[(1,.box none [.one 1 (.st 4)])],2,false⟩ [(.exit 0,⟨[],[],1,false⟩),(.ret,⟨[e 4 (.int .i64)],[],1,false⟩)]] [] (by kernel_rfl) fun _=>by kernel_rfl
def zna (k:Nat):LB ((List UInt8)×Int×GrT×Unit) (Unit ⊕ (Int×Unit)):=fun (v0,v1,v2,_)=>
 (bif decide (v1<(v2.1.length:Int)) then
  (at? v2.1 v1).bind fun v3=>
  (bif (v3.1==v0) then
   some (.inr (.inr (v1,())))
  else
   some (.inl (v0,(w64 (v1+(1:Int))),v2,())))
 else
  some (.inr (.inl ())))
def G58 (k:Nat):GrT×(List UInt8)×Unit→(Option (Int×Unit)):=fun (a0,a1,_)=>
 (iter k (zna k) (a1,(0:Int),a0,())).bind fun
 | .inl _=>some ((-(1:Int)),())
 | .inr (v4,_)=>some (v4,())
theorem ziD (k:Nat):FOk (S:=SyS) prog 58 [.val (.st 4),.val (.str)] [.val (.int .i64)] (G58 k):=FOk.mk (k:=k) [.l ⟨[e 1 .str,p 2 1,e 5 (.int .i64)],[(1,.box none [.one 1 (.st 4)])],2,false⟩ [(.exit 0,⟨[],[],1,false⟩),(.ret,⟨[e 4 (.int .i64)],[],1,false⟩)]] [] (by kernel_rfl) fun _=>by kernel_rfl
def znd (k:Nat):LB ((List (List UInt8))×Int×Int×Int×Bool×Bool×(List yd)×(List ScT)×(List RuT)×(List zh)×(List zh)×(List (List UInt8))×Int×Int×(List Int)×Unit) ((Int×Int×Bool×Bool×(List yd)×(List ScT)×(List RuT)×(List zh)×(List zh)×(List (List UInt8))×Int×Int×(List Int)×Unit) ⊕ (Bool×Int×Int×Bool×Bool×(List yd)×(List ScT)×(List RuT)×(List zh)×(List zh)×(List (List UInt8))×Unit)):=fun (v60,v61,v62,v63,v64,v65,v66,v67,v68,v69,v70,v71,v72,v73,v74,_)=>
 (bif decide (v61<(v60.length:Int)) then
  (at? v60 v61).bind fun v75=>
  (G58 k ((v66,([]:List (List UInt8)),v67,v68,v69,v70,v62,()),v75,())).bind fun (v76,_)=>
  (at? v60 v61).bind fun v77=>
  (G33 k (v71,v77,())).bind fun (v78,_)=>
  ((bif decide (v76≥(0:Int)) then
    room ((List.length v74)+(List.length ([(w64 ((-(1:Int))-v76))]:List Int))) 8 (some (.inl (v60,v61,v62,v63,v64,v65,v66,v67,v68,v69,v70,v71,v72,v73,(v74++([(w64 ((-(1:Int))-v76))]:List Int)),())))
   else
    (bif decide (v78≥(0:Int)) then
     room ((List.length v74)+(List.length ([v78]:List Int))) 8 (some (.inl (v60,v61,v62,v63,v64,v65,v66,v67,v68,v69,v70,v71,v72,v73,(v74++([v78]:List Int)),())))
    else
     some (.inr (false,v62,v63,v64,v65,v66,v67,v68,v69,v70,v71,())))):Option (((List (List UInt8))×Int×Int×Int×Bool×Bool×(List yd)×(List ScT)×(List RuT)×(List zh)×(List zh)×(List (List UInt8))×Int×Int×(List Int)×Unit) ⊕ (Bool×Int×Int×Bool×Bool×(List yd)×(List ScT)×(List RuT)×(List zh)×(List zh)×(List (List UInt8))×Unit))).bind fun
  | .inl (v79,v80,v81,v82,v83,v84,v85,v86,v87,v88,v89,v90,v91,v92,v93,_)=>some (.inl (v79,(w64 (v80+(1:Int))),v81,v82,v83,v84,v85,v86,v87,v88,v89,v90,v91,v92,v93,()))
  | .inr (v94,v95,v96,v97,v98,v99,v100,v101,v102,v103,v104,_)=>some (.inr (.inr (v94,v95,v96,v97,v98,v99,v100,v101,v102,v103,v104,())))
 else
  some (.inr (.inl (v62,v63,v64,v65,v66,v67,v68,v69,v70,v71,v72,v73,v74,()))))
def G54 (k:Nat):List (List UInt8)×Int×Int×Bool×Bool×List yd×List ScT×List RuT×List zh×List zh×List (List UInt8)×Unit→(Option (Bool×Int×Int×Bool×Bool×(List yd)×(List ScT)×(List RuT)×(List zh)×(List zh)×(List (List UInt8))×Unit)):=fun (a0,a1,a2,a3,a4,a5,a6,a7,a8,a9,a10,_)=>
 ((bif decide ((a0.length:Int)<(3:Int)) then
   some (a0,true,a1,a2,a3,a4,a5,a6,a7,a8,a9,a10,())
  else
   (at? a0 (2:Int)).bind fun v0=>
   (bif (!(v0==([61]:List UInt8))) then
    some (a0,true,a1,a2,a3,a4,a5,a6,a7,a8,a9,a10,())
   else
    (at? a0 (1:Int)).bind fun v1=>
    (G32 k (v1,())).bind fun (v2,_)=>
    some (a0,(!v2),a1,a2,a3,a4,a5,a6,a7,a8,a9,a10,())))).bind fun (v3,v4,v5,v6,v7,v8,v9,v10,v11,v12,v13,v14,_)=>
 (bif v4 then
  some (false,v5,v6,v7,v8,v9,v10,v11,v12,v13,v14,())
 else
  (at? v3 (1:Int)).bind fun v15=>
  (G33 k (v14,v15,())).bind fun (v16,_)=>
  (hi? (List.length v3) (3:Int)).bind fun v17=>
  ((bif decide (((slC (Option.some (3:Int)) (Option.none) v17 (List.length v3) v3).length:Int)≥(2:Int)) then
    ((at? (slC (Option.some (3:Int)) (Option.none) v17 (List.length v3) v3) (w64 (((slC (Option.some (3:Int)) (Option.none) v17 (List.length v3) v3).length:Int)-(2:Int))))).bind fun v18=>
    some ((slC (Option.some (3:Int)) (Option.none) v17 (List.length v3) v3),(v18==([58]:List UInt8)),v5,v6,v7,v8,v9,v10,v11,v12,v13,v14,v16,(-(1:Int)),())
   else
    some ((slC (Option.some (3:Int)) (Option.none) v17 (List.length v3) v3),false,v5,v6,v7,v8,v9,v10,v11,v12,v13,v14,v16,(-(1:Int)),()))).bind fun (v19,v20,v21,v22,v23,v24,v25,v26,v27,v28,v29,v30,v31,v32,_)=>
  ((bif v20 then
    (at? v19 (w64 ((v19.length:Int)-(1:Int)))).bind fun v33=>
    (G61 k ((v25,([]:List (List UInt8)),v26,v27,v28,v29,v21,()),v33,())).bind fun (v34,_)=>
    (bif decide (v34<(0:Int)) then
     some (.inl (false,v21,v22,v23,v24,v25,v26,v27,v28,v29,v30,()))
    else
     (hi? (List.length v19) (w64 ((v19.length:Int)-(2:Int)))).bind fun v35=>
     some (.inr ((slC (Option.none) (Option.some (w64 ((v19.length:Int)-(2:Int)))) 0 v35 v19),v21,v22,v23,v24,v25,v26,v27,v28,v29,v30,v31,v34,())))
   else
    some (.inr (v19,v21,v22,v23,v24,v25,v26,v27,v28,v29,v30,v31,v32,()))):Option ((Bool×Int×Int×Bool×Bool×(List yd)×(List ScT)×(List RuT)×(List zh)×(List zh)×(List (List UInt8))×Unit) ⊕ ((List (List UInt8))×Int×Int×Bool×Bool×(List yd)×(List ScT)×(List RuT)×(List zh)×(List zh)×(List (List UInt8))×zI))).bind fun
  | .inl (v36,v37,v38,v39,v40,v41,v42,v43,v44,v45,v46,_)=>some (v36,v37,v38,v39,v40,v41,v42,v43,v44,v45,v46,())
  | .inr (v47,v48,v49,v50,v51,v52,v53,v54,v55,v56,v57,v58,v59,_)=>(iter k (znd k) (v47,(0:Int),v48,v49,v50,v51,v52,v53,v54,v55,v56,v57,v58,v59,([]:List Int),())).bind fun
   | .inl (v105,v106,v107,v108,v109,v110,v111,v112,v113,v114,v115,v116,v117,_)=>room ((List.length v111)+(List.length ([(v115,v117,v116,())]:List RuT))) 40 (some (true,v105,v106,v107,v108,v109,v110,(v111++([(v115,v117,v116,())]:List RuT)),v112,v113,v114,()))
   | .inr (v118,v119,v120,v121,v122,v123,v124,v125,v126,v127,v128,_)=>some (v118,v119,v120,v121,v122,v123,v124,v125,v126,v127,v128,()))
theorem zoN (k:Nat):HOk (S:=SyS) prog 54 Vo Vn (G54 k):=HOk.mk (k:=k) [.c 6 [(.normal,⟨[p 0 0,(1,.b (.one 4 (.list .str))),e 25 .bool],[(0,.box (some 0) [.whole 1,.nil,.whole 2,.whole 3,.whole 4,.whole 5,.one 1 (.int .i64),.whole 6,.one 1 (.int .i64),.one 1 .bool,.one 1 .bool]),(1,.row 4 (.st 1)),(2,.row 4 (.st 2)),(3,.row 4 (.st 3)),(4,.row 4 (.arr 4 .u64)),(5,.row 4 (.arr 4 .u64)),(6,.row 4 .str)],7,true⟩)],.c 51 [(.normal,⟨[p 0 0,p 5 7,(6,.b (.one 4 (.list .str))),e 48 .bool],[(0,.box (some 0) [.whole 1,.nil,.whole 2,.whole 3,.whole 4,.whole 5,.one 1 (.int .i64),.whole 6,.one 1 (.int .i64),.one 1 .bool,.one 1 .bool]),(1,.row 4 (.st 1)),(2,.row 4 (.st 2)),(3,.row 4 (.st 3)),(4,.row 4 (.arr 4 .u64)),(5,.row 4 (.arr 4 .u64)),(6,.row 4 .str),(7,.box none [.one 1 (.int .i64),.nil,.one 1 (.int .i64)])],8,true⟩)],.c 65 [(.ret,⟨[p 0 0,e 4 .bool],[(0,.box (some 0) [.whole 1,.nil,.whole 2,.whole 3,.whole 4,.whole 5,.one 1 (.int .i64),.whole 6,.one 1 (.int .i64),.one 1 .bool,.one 1 .bool]),(1,.row 4 (.st 1)),(2,.row 4 (.st 2)),(3,.row 4 (.st 3)),(4,.row 4 (.arr 4 .u64)),(5,.row 4 (.arr 4 .u64)),(6,.row 4 .str)],7,true⟩),(.normal,⟨[p 0 0,p 5 7,(6,.b (.one 4 (.list .str)))],[(0,.box (some 0) [.whole 1,.nil,.whole 2,.whole 3,.whole 4,.whole 5,.one 1 (.int .i64),.whole 6,.one 1 (.int .i64),.one 1 .bool,.one 1 .bool]),(1,.row 4 (.st 1)),(2,.row 4 (.st 2)),(3,.row 4 (.st 3)),(4,.row 4 (.arr 4 .u64)),(5,.row 4 (.arr 4 .u64)),(6,.row 4 .str),(7,.box none [.one 1 (.int .i64),.nil,.one 1 (.int .i64)])],8,true⟩)],.l ⟨[p 0 0,p 5 7,(6,.b (.one 4 (.list .str))),e 7 (.int .i64)],[(0,.box (some 0) [.whole 1,.nil,.whole 2,.whole 3,.whole 4,.whole 5,.one 1 (.int .i64),.whole 6,.one 1 (.int .i64),.one 1 .bool,.one 1 .bool]),(1,.row 4 (.st 1)),(2,.row 4 (.st 2)),(3,.row 4 (.st 3)),(4,.row 4 (.arr 4 .u64)),(5,.row 4 (.arr 4 .u64)),(6,.row 4 .str),(7,.box none [.one 1 (.int .i64),.whole 8,.one 1 (.int .i64)]),(8,.row 1 (.int .i64))],9,true⟩ [(.exit 0,⟨[p 0 0,p 5 7],[(0,.box (some 0) [.whole 1,.nil,.whole 2,.whole 3,.whole 4,.whole 5,.one 1 (.int .i64),.whole 6,.one 1 (.int .i64),.one 1 .bool,.one 1 .bool]),(1,.row 4 (.st 1)),(2,.row 4 (.st 2)),(3,.row 4 (.st 3)),(4,.row 4 (.arr 4 .u64)),(5,.row 4 (.arr 4 .u64)),(6,.row 4 .str),(7,.box none [.one 1 (.int .i64),.whole 8,.one 1 (.int .i64)]),(8,.row 1 (.int .i64))],9,true⟩),(.ret,⟨[p 0 0,e 4 .bool],[(0,.box (some 0) [.whole 1,.nil,.whole 2,.whole 3,.whole 4,.whole 5,.one 1 (.int .i64),.whole 6,.one 1 (.int .i64),.one 1 .bool,.one 1 .bool]),(1,.row 4 (.st 1)),(2,.row 4 (.st 2)),(3,.row 4 (.st 3)),(4,.row 4 (.arr 4 .u64)),(5,.row 4 (.arr 4 .u64)),(6,.row 4 .str)],7,true⟩)],.c 150 [(.normal,⟨[p 0 0,p 5 7,(6,.b (.one 4 (.list .str))),e 7 (.int .i64)],[(0,.box (some 0) [.whole 1,.nil,.whole 2,.whole 3,.whole 4,.whole 5,.one 1 (.int .i64),.whole 6,.one 1 (.int .i64),.one 1 .bool,.one 1 .bool]),(1,.row 4 (.st 1)),(2,.row 4 (.st 2)),(3,.row 4 (.st 3)),(4,.row 4 (.arr 4 .u64)),(5,.row 4 (.arr 4 .u64)),(6,.row 4 .str),(7,.box none [.one 1 (.int .i64),.whole 8,.one 1 (.int .i64)]),(8,.row 1 (.int .i64))],9,true⟩),(.ret,⟨[p 0 0,e 4 .bool],[(0,.box (some 0) [.whole 1,.nil,.whole 2,.whole 3,.whole 4,.whole 5,.one 1 (.int .i64),.whole 6,.one 1 (.int .i64),.one 1 .bool,.one 1 .bool]),(1,.row 4 (.st 1)),(2,.row 4 (.st 2)),(3,.row 4 (.st 3)),(4,.row 4 (.arr 4 .u64)),(5,.row 4 (.arr 4 .u64)),(6,.row 4 .str)],7,true⟩)],.e 156 (.int .i64),.e 157 (.int .i64),.e 172 (.int .i64),.e 173 (.int .i64),.p 187 [.fzB 5 1],.e 195 (.st 3),.e 196 (.st 3)] [enP (zdl k),enP (zep k),enP (zkT k),enP (ziD k)] (by kernel_rfl) (by kernel_rfl) fun _=>by kernel_rfl
end
open Z
noncomputable section
def G82 (k:Nat):(List UInt8)×Unit→(Option (zh×Bool×Unit)):=fun (a0,_)=>
 (G98 k (a0,())).bind fun (v0,v1,v2,_)=>
 ((bif (v2==(0:Int)) then
   some ((v1==(a0.length:Int)),v0,())
  else
   some (false,v0,()))).bind fun (v3,v4,_)=>
 some (v4,v3,())
theorem zow (k:Nat):FOk (S:=SyS) prog 82 [.val (.str)] [.val (.arr 4 .u64),.val .bool] (G82 k):=FOk.mk (k:=k) [.c 19 [(.normal,⟨[p 2 1,e 3 .bool],[(1,.box none [.one 1 (.arr 4 .u64)])],2,false⟩)]] [enP (zkK k)] (by kernel_rfl) fun _=>by kernel_rfl
def znc (k:Nat):LB ((List (List UInt8))×Int×Int×Int×Int×Bool×Bool×(List yd)×(List ScT)×(List RuT)×(List zh)×(List zh)×(List (List UInt8))×Unit) ((Int×Int×Bool×Bool×(List yd)×(List ScT)×(List RuT)×(List zh)×(List zh)×(List (List UInt8))×Unit) ⊕ (Bool×Int×Int×Bool×Bool×(List yd)×(List ScT)×(List RuT)×(List zh)×(List zh)×(List (List UInt8))×Unit)):=fun (v14,v15,v16,v17,v18,v19,v20,v21,v22,v23,v24,v25,v26,_)=>
 (bif decide (v16<(v14.length:Int)) then
  ((bif (v16==v15) then
    some (.inl (v14,v15,v16,v17,v18,v19,v20,v21,v22,v23,v24,v25,v26,()))
   else
    (at? v14 v16).bind fun v27=>
    (G82 k (v27,())).bind fun (v28,v29,_)=>
    (bif (!v29) then
     some (.inr (false,v17,v18,v19,v20,v21,v22,v23,v24,v25,v26,()))
    else
     ((bif decide (v16<v15) then
       room ((List.length v24)+(List.length ([v28]:List zh))) 32 (some (v14,v15,v16,v17,v18,v19,v20,v21,v22,v23,(v24++([v28]:List zh)),v25,v26,()))
      else
       room ((List.length v25)+(List.length ([v28]:List zh))) 32 (some (v14,v15,v16,v17,v18,v19,v20,v21,v22,v23,v24,(v25++([v28]:List zh)),v26,())))).bind fun (v30,v31,v32,v33,v34,v35,v36,v37,v38,v39,v40,v41,v42,_)=>
     some (.inl (v30,v31,v32,v33,v34,v35,v36,v37,v38,v39,v40,v41,v42,())))):Option (((List (List UInt8))×Int×Int×Int×Int×Bool×Bool×(List yd)×(List ScT)×(List RuT)×(List zh)×(List zh)×(List (List UInt8))×Unit) ⊕ (Bool×Int×Int×Bool×Bool×(List yd)×(List ScT)×(List RuT)×(List zh)×(List zh)×(List (List UInt8))×Unit))).bind fun
  | .inl (v43,v44,v45,v46,v47,v48,v49,v50,v51,v52,v53,v54,v55,_)=>some (.inl (v43,v44,(w64 (v45+(1:Int))),v46,v47,v48,v49,v50,v51,v52,v53,v54,v55,()))
  | .inr (v56,v57,v58,v59,v60,v61,v62,v63,v64,v65,v66,_)=>some (.inr (.inr (v56,v57,v58,v59,v60,v61,v62,v63,v64,v65,v66,())))
 else
  some (.inr (.inl (v17,v18,v19,v20,v21,v22,v23,v24,v25,v26,()))))
def G55 (k:Nat):List (List UInt8)×Int×Int×Bool×Bool×List yd×List ScT×List RuT×List zh×List zh×List (List UInt8)×Unit→(Option (Bool×Int×Int×Bool×Bool×(List yd)×(List ScT)×(List RuT)×(List zh)×(List zh)×(List (List UInt8))×Unit)):=fun (a0,a1,a2,a3,a4,a5,a6,a7,a8,a9,a10,_)=>
 (G33 k (a0,([124]:List UInt8),())).bind fun (v0,_)=>
 ((bif a3 then
   some (a0,v0,true,a1,a2,a3,a4,a5,a6,a7,a8,a9,a10,())
  else
   some (a0,v0,decide (v0<(0:Int)),a1,a2,a3,a4,a5,a6,a7,a8,a9,a10,()))).bind fun (v1,v2,v3,v4,v5,v6,v7,v8,v9,v10,v11,v12,v13,_)=>
 (bif v3 then
  some (false,v4,v5,v6,v7,v8,v9,v10,v11,v12,v13,())
 else
  (iter k (znc k) (v1,v2,(1:Int),v4,v5,true,v7,v8,v9,v10,v11,v12,v13,())).bind fun
  | .inl (v67,v68,v69,v70,v71,v72,v73,v74,v75,v76,_)=>some (true,v67,v68,v69,v70,v71,v72,v73,v74,v75,v76,())
  | .inr (v77,v78,v79,v80,v81,v82,v83,v84,v85,v86,v87,_)=>some (v77,v78,v79,v80,v81,v82,v83,v84,v85,v86,v87,()))
theorem zoM (k:Nat):HOk (S:=SyS) prog 55 Vo Vn (G55 k):=HOk.mk (k:=k) [.c 12 [(.normal,⟨[p 0 0,(1,.b (.one 4 (.list .str))),e 5 (.int .i64),e 18 .bool],[(0,.box (some 0) [.whole 1,.nil,.whole 2,.whole 3,.whole 4,.whole 5,.one 1 (.int .i64),.whole 6,.one 1 (.int .i64),.one 1 .bool,.one 1 .bool]),(1,.row 4 (.st 1)),(2,.row 4 (.st 2)),(3,.row 4 (.st 3)),(4,.row 4 (.arr 4 .u64)),(5,.row 4 (.arr 4 .u64)),(6,.row 4 .str)],7,true⟩)],.l ⟨[p 0 0,(1,.b (.one 4 (.list .str))),e 5 (.int .i64),e 6 (.int .i64)],[(0,.box (some 0) [.whole 1,.nil,.whole 2,.whole 3,.whole 4,.whole 5,.one 1 (.int .i64),.whole 6,.one 1 (.int .i64),.one 1 .bool,.one 1 .bool]),(1,.row 4 (.st 1)),(2,.row 4 (.st 2)),(3,.row 4 (.st 3)),(4,.row 4 (.arr 4 .u64)),(5,.row 4 (.arr 4 .u64)),(6,.row 4 .str)],7,true⟩ [(.exit 0,⟨[p 0 0],[(0,.box (some 0) [.whole 1,.nil,.whole 2,.whole 3,.whole 4,.whole 5,.one 1 (.int .i64),.whole 6,.one 1 (.int .i64),.one 1 .bool,.one 1 .bool]),(1,.row 4 (.st 1)),(2,.row 4 (.st 2)),(3,.row 4 (.st 3)),(4,.row 4 (.arr 4 .u64)),(5,.row 4 (.arr 4 .u64)),(6,.row 4 .str)],7,true⟩),(.ret,⟨[p 0 0,e 4 .bool],[(0,.box (some 0) [.whole 1,.nil,.whole 2,.whole 3,.whole 4,.whole 5,.one 1 (.int .i64),.whole 6,.one 1 (.int .i64),.one 1 .bool,.one 1 .bool]),(1,.row 4 (.st 1)),(2,.row 4 (.st 2)),(3,.row 4 (.st 3)),(4,.row 4 (.arr 4 .u64)),(5,.row 4 (.arr 4 .u64)),(6,.row 4 .str)],7,true⟩)],.c 51 [(.normal,⟨[p 0 0,(1,.b (.one 4 (.list .str))),e 5 (.int .i64),e 6 (.int .i64)],[(0,.box (some 0) [.whole 1,.nil,.whole 2,.whole 3,.whole 4,.whole 5,.one 1 (.int .i64),.whole 6,.one 1 (.int .i64),.one 1 .bool,.one 1 .bool]),(1,.row 4 (.st 1)),(2,.row 4 (.st 2)),(3,.row 4 (.st 3)),(4,.row 4 (.arr 4 .u64)),(5,.row 4 (.arr 4 .u64)),(6,.row 4 .str)],7,true⟩),(.ret,⟨[p 0 0,e 4 .bool],[(0,.box (some 0) [.whole 1,.nil,.whole 2,.whole 3,.whole 4,.whole 5,.one 1 (.int .i64),.whole 6,.one 1 (.int .i64),.one 1 .bool,.one 1 .bool]),(1,.row 4 (.st 1)),(2,.row 4 (.st 2)),(3,.row 4 (.st 3)),(4,.row 4 (.arr 4 .u64)),(5,.row 4 (.arr 4 .u64)),(6,.row 4 .str)],7,true⟩)],.c 91 [(.normal,⟨[p 0 0,(1,.b (.one 4 (.list .str))),e 5 (.int .i64),e 6 (.int .i64)],[(0,.box (some 0) [.whole 1,.nil,.whole 2,.whole 3,.whole 4,.whole 5,.one 1 (.int .i64),.whole 6,.one 1 (.int .i64),.one 1 .bool,.one 1 .bool]),(1,.row 4 (.st 1)),(2,.row 4 (.st 2)),(3,.row 4 (.st 3)),(4,.row 4 (.arr 4 .u64)),(5,.row 4 (.arr 4 .u64)),(6,.row 4 .str)],7,true⟩)],.e 100 (.arr 4 .u64),.e 101 (.arr 4 .u64),.e 115 (.arr 4 .u64),.e 116 (.arr 4 .u64)] [enP (zep k),enP (zow k)] (by kernel_rfl) (by kernel_rfl) fun _=>by kernel_rfl
def znb (k:Nat):LB ((List (List UInt8))×Int×Int×Int×Bool×Bool×(List yd)×(List ScT)×(List RuT)×(List zh)×(List zh)×(List (List UInt8))×Unit) ((Int×Int×Bool×Bool×(List yd)×(List ScT)×(List RuT)×(List zh)×(List zh)×(List (List UInt8))×Unit) ⊕ (Bool×Int×Int×Bool×Bool×(List yd)×(List ScT)×(List RuT)×(List zh)×(List zh)×(List (List UInt8))×Unit)):=fun (v14,v15,v16,v17,v18,v19,v20,v21,v22,v23,v24,v25,_)=>
 (at? v14 (1:Int)).bind fun v26=>
 (bif decide (v15<(v26.length:Int)) then
  ((at? v14 (1:Int)).bind fun v27=>
   (at? v27 v15).bind fun v28=>
   (bif decide ((((UInt8.toNat v28):Nat):Int)<(48:Int)) then
    some (v14,v15,true,v16,v17,v18,v19,v20,v21,v22,v23,v24,v25,())
   else
    (at? v14 (1:Int)).bind fun v29=>
    (at? v29 v15).bind fun v30=>
    some (v14,v15,decide ((((UInt8.toNat v30):Nat):Int)>(57:Int)),v16,v17,v18,v19,v20,v21,v22,v23,v24,v25,()))).bind fun (v31,v32,v33,v34,v35,v36,v37,v38,v39,v40,v41,v42,v43,_)=>
  (bif v33 then
   some (.inr (.inr (false,v34,v35,v36,v37,v38,v39,v40,v41,v42,v43,())))
  else
   (at? v31 (1:Int)).bind fun v44=>
   (at? v44 v32).bind fun v45=>
   some (.inl (v31,(w64 (v32+(1:Int))),(w64 ((w64 (v34*(10:Int)))+(w64 (IntKind.u8.wrap ((((UInt8.toNat v45):Nat):Int)-(48:Int)))))),v35,v36,v37,v38,v39,v40,v41,v42,v43,())))
 else
  some (.inr (.inl (v16,v17,v18,v19,v20,v21,v22,v23,v24,v25,()))))
def G56 (k:Nat):List (List UInt8)×Int×Int×Bool×Bool×List yd×List ScT×List RuT×List zh×List zh×List (List UInt8)×Unit→(Option (Bool×Int×Int×Bool×Bool×(List yd)×(List ScT)×(List RuT)×(List zh)×(List zh)×(List (List UInt8))×Unit)):=fun (a0,a1,a2,a3,a4,a5,a6,a7,a8,a9,a10,_)=>
 ((bif a4 then
   some (a0,true,a1,a2,a3,a4,a5,a6,a7,a8,a9,a10,())
  else
   (bif ((a0.length:Int) != (2:Int)) then
    some (a0,true,a1,a2,a3,a4,a5,a6,a7,a8,a9,a10,())
   else
    (at? a0 (1:Int)).bind fun v0=>
    (bif decide ((v0.length:Int)<(1:Int)) then
     some (a0,true,a1,a2,a3,a4,a5,a6,a7,a8,a9,a10,())
    else
     (at? a0 (1:Int)).bind fun v1=>
     some (a0,decide ((v1.length:Int)>(9:Int)),a1,a2,a3,a4,a5,a6,a7,a8,a9,a10,()))))).bind fun (v2,v3,v4,v5,v6,v7,v8,v9,v10,v11,v12,v13,_)=>
 (bif v3 then
  some (false,v4,v5,v6,v7,v8,v9,v10,v11,v12,v13,())
 else
  (iter k (znb k) (v2,(0:Int),v4,v5,v6,true,v8,v9,v10,v11,v12,v13,())).bind fun
  | .inl (v46,v47,v48,v49,v50,v51,v52,v53,v54,v55,_)=>some (true,v46,v47,v48,v49,v50,v51,v52,v53,v54,v55,())
  | .inr (v56,v57,v58,v59,v60,v61,v62,v63,v64,v65,v66,_)=>some (v56,v57,v58,v59,v60,v61,v62,v63,v64,v65,v66,()))
theorem zoL (k:Nat):HOk (S:=SyS) prog 56 Vo Vn (G56 k):=HOk.mk (k:=k) [.c 6 [(.normal,⟨[p 0 0,(1,.b (.one 4 (.list .str))),e 28 .bool],[(0,.box (some 0) [.whole 1,.nil,.whole 2,.whole 3,.whole 4,.whole 5,.one 1 (.int .i64),.whole 6,.one 1 (.int .i64),.one 1 .bool,.one 1 .bool]),(1,.row 4 (.st 1)),(2,.row 4 (.st 2)),(3,.row 4 (.st 3)),(4,.row 4 (.arr 4 .u64)),(5,.row 4 (.arr 4 .u64)),(6,.row 4 .str)],7,true⟩)],.l ⟨[p 0 0,(1,.b (.one 4 (.list .str))),e 5 (.int .i64)],[(0,.box (some 0) [.whole 1,.nil,.whole 2,.whole 3,.whole 4,.whole 5,.one 1 (.int .i64),.whole 6,.one 1 (.int .i64),.one 1 .bool,.one 1 .bool]),(1,.row 4 (.st 1)),(2,.row 4 (.st 2)),(3,.row 4 (.st 3)),(4,.row 4 (.arr 4 .u64)),(5,.row 4 (.arr 4 .u64)),(6,.row 4 .str)],7,true⟩ [(.exit 0,⟨[p 0 0],[(0,.box (some 0) [.whole 1,.nil,.whole 2,.whole 3,.whole 4,.whole 5,.one 1 (.int .i64),.whole 6,.one 1 (.int .i64),.one 1 .bool,.one 1 .bool]),(1,.row 4 (.st 1)),(2,.row 4 (.st 2)),(3,.row 4 (.st 3)),(4,.row 4 (.arr 4 .u64)),(5,.row 4 (.arr 4 .u64)),(6,.row 4 .str)],7,true⟩),(.ret,⟨[p 0 0,e 4 .bool],[(0,.box (some 0) [.whole 1,.nil,.whole 2,.whole 3,.whole 4,.whole 5,.one 1 (.int .i64),.whole 6,.one 1 (.int .i64),.one 1 .bool,.one 1 .bool]),(1,.row 4 (.st 1)),(2,.row 4 (.st 2)),(3,.row 4 (.st 3)),(4,.row 4 (.arr 4 .u64)),(5,.row 4 (.arr 4 .u64)),(6,.row 4 .str)],7,true⟩)],.c 65 [(.normal,⟨[p 0 0,(1,.b (.one 4 (.list .str))),e 5 (.int .i64),e 53 .bool],[(0,.box (some 0) [.whole 1,.nil,.whole 2,.whole 3,.whole 4,.whole 5,.one 1 (.int .i64),.whole 6,.one 1 (.int .i64),.one 1 .bool,.one 1 .bool]),(1,.row 4 (.st 1)),(2,.row 4 (.st 2)),(3,.row 4 (.st 3)),(4,.row 4 (.arr 4 .u64)),(5,.row 4 (.arr 4 .u64)),(6,.row 4 .str)],7,true⟩)]] [] (by kernel_rfl) (by kernel_rfl) fun _=>by kernel_rfl
def znJ (k:Nat):LB ((List (List UInt8))×Int×Int×Int×Bool×Bool×(List yd)×(List ScT)×(List RuT)×(List zh)×(List zh)×(List (List UInt8))×Unit) (((List (List UInt8))×Int×Int×Bool×Bool×(List yd)×(List ScT)×(List RuT)×(List zh)×(List zh)×(List (List UInt8))×Unit) ⊕ (Bool×Int×Int×Bool×Bool×(List yd)×(List ScT)×(List RuT)×(List zh)×(List zh)×(List (List UInt8))×Unit)):=fun (v0,v1,v2,v3,v4,v5,v6,v7,v8,v9,v10,v11,_)=>
 (bif decide (v1<(v0.length:Int)) then
  (at? v0 v1).bind fun v12=>
  (bif (v12==([]:List UInt8)) then
   some (.inr (.inr (false,v2,v3,v4,v5,v6,v7,v8,v9,v10,v11,())))
  else
   some (.inl (v0,(w64 (v1+(1:Int))),v2,v3,v4,v5,v6,v7,v8,v9,v10,v11,())))
 else
  some (.inr (.inl (v0,v2,v3,v4,v5,v6,v7,v8,v9,v10,v11,()))))
def G34 (k:Nat):List (List UInt8)×Int×Int×Bool×Bool×List yd×List ScT×List RuT×List zh×List zh×List (List UInt8)×Unit→(Option (Bool×Int×Int×Bool×Bool×(List yd)×(List ScT)×(List RuT)×(List zh)×(List zh)×(List (List UInt8))×Unit)):=fun (a0,a1,a2,a3,a4,a5,a6,a7,a8,a9,a10,_)=>
 (iter k (znJ k) (a0,(0:Int),a1,a2,a3,a4,a5,a6,a7,a8,a9,a10,())).bind fun
 | .inl (v13,v14,v15,v16,v17,v18,v19,v20,v21,v22,v23,_)=>(at? v13 (0:Int)).bind fun v24=>
  (G33 k (([[116,111,107,101,110],[115,99,111,112,101],[114,117,108,101],[115,121,110,99],[109,97,120]]:List (List UInt8)),v24,())).bind fun (v25,_)=>
  (at? v13 (0:Int)).bind fun v26=>
  ((bif (v26==([116,114,105,118,105,97]:List UInt8)) then
    some (v13,(0:Int),v14,v15,v16,v17,v18,v19,v20,v21,v22,v23,())
   else
    some (v13,v25,v14,v15,v16,v17,v18,v19,v20,v21,v22,v23,()))).bind fun (v27,v28,v29,v30,v31,v32,v33,v34,v35,v36,v37,v38,_)=>
  (bif decide (v28<v30) then
   some (false,v29,v30,v31,v32,v33,v34,v35,v36,v37,v38,())
  else
   ((bif (v28==(0:Int)) then
     (G52 k (v27,v29,v28,v31,v32,v33,v34,v35,v36,v37,v38,())).bind fun (v39,v40,v41,v42,v43,v44,v45,v46,v47,v48,v49,_)=>
     some (.inl (v39,v40,v41,v42,v43,v44,v45,v46,v47,v48,v49,()))
    else
     ((bif (v28==(1:Int)) then
       (G53 k (v27,v29,v28,v31,v32,v33,v34,v35,v36,v37,v38,())).bind fun (v50,v51,v52,v53,v54,v55,v56,v57,v58,v59,v60,_)=>
       some (.inl (v50,v51,v52,v53,v54,v55,v56,v57,v58,v59,v60,()))
      else
       ((bif (v28==(2:Int)) then
         (G54 k (v27,v29,v28,v31,v32,v33,v34,v35,v36,v37,v38,())).bind fun (v61,v62,v63,v64,v65,v66,v67,v68,v69,v70,v71,_)=>
         some (.inl (v61,v62,v63,v64,v65,v66,v67,v68,v69,v70,v71,()))
        else
         (bif (v28==(3:Int)) then
          (G55 k (v27,v29,v28,v31,v32,v33,v34,v35,v36,v37,v38,())).bind fun (v72,v73,v74,v75,v76,v77,v78,v79,v80,v81,v82,_)=>
          some (.inl (v72,v73,v74,v75,v76,v77,v78,v79,v80,v81,v82,()))
         else
          some (.inr (v27,v29,v28,v31,v32,v33,v34,v35,v36,v37,v38,())))):Option ((Bool×Int×Int×Bool×Bool×(List yd)×(List ScT)×(List RuT)×(List zh)×(List zh)×(List (List UInt8))×Unit) ⊕ ((List (List UInt8))×Int×Int×Bool×Bool×(List yd)×(List ScT)×(List RuT)×(List zh)×(List zh)×(List (List UInt8))×Unit))).bind fun
       | .inl (v83,v84,v85,v86,v87,v88,v89,v90,v91,v92,v93,_)=>some (.inl (v83,v84,v85,v86,v87,v88,v89,v90,v91,v92,v93,()))
       | .inr (v94,v95,v96,v97,v98,v99,v100,v101,v102,v103,v104,_)=>some (.inr (v94,v95,v96,v97,v98,v99,v100,v101,v102,v103,v104,()))):Option ((Bool×Int×Int×Bool×Bool×(List yd)×(List ScT)×(List RuT)×(List zh)×(List zh)×(List (List UInt8))×Unit) ⊕ ((List (List UInt8))×Int×Int×Bool×Bool×(List yd)×(List ScT)×(List RuT)×(List zh)×(List zh)×(List (List UInt8))×Unit))).bind fun
     | .inl (v105,v106,v107,v108,v109,v110,v111,v112,v113,v114,v115,_)=>some (.inl (v105,v106,v107,v108,v109,v110,v111,v112,v113,v114,v115,()))
     | .inr (v116,v117,v118,v119,v120,v121,v122,v123,v124,v125,v126,_)=>some (.inr (v116,v117,v118,v119,v120,v121,v122,v123,v124,v125,v126,()))):Option ((Bool×Int×Int×Bool×Bool×(List yd)×(List ScT)×(List RuT)×(List zh)×(List zh)×(List (List UInt8))×Unit) ⊕ ((List (List UInt8))×Int×Int×Bool×Bool×(List yd)×(List ScT)×(List RuT)×(List zh)×(List zh)×(List (List UInt8))×Unit))).bind fun
   | .inl (v127,v128,v129,v130,v131,v132,v133,v134,v135,v136,v137,_)=>some (v127,v128,v129,v130,v131,v132,v133,v134,v135,v136,v137,())
   | .inr (v138,v139,v140,v141,v142,v143,v144,v145,v146,v147,v148,_)=>(G56 k (v138,v139,v140,v141,v142,v143,v144,v145,v146,v147,v148,())).bind fun (v149,v150,v151,v152,v153,v154,v155,v156,v157,v158,v159,_)=>
    some (v149,v150,v151,v152,v153,v154,v155,v156,v157,v158,v159,()))
 | .inr (v160,v161,v162,v163,v164,v165,v166,v167,v168,v169,v170,_)=>some (v160,v161,v162,v163,v164,v165,v166,v167,v168,v169,v170,())
theorem zo2 (k:Nat):HOk (S:=SyS) prog 34 Vo Vn (G34 k):=HOk.mk (k:=k) [.l ⟨[p 0 0,(1,.b (.one 4 (.list .str))),e 5 (.int .i64)],[(0,.box (some 0) [.whole 1,.nil,.whole 2,.whole 3,.whole 4,.whole 5,.one 1 (.int .i64),.whole 6,.one 1 (.int .i64),.one 1 .bool,.one 1 .bool]),(1,.row 4 (.st 1)),(2,.row 4 (.st 2)),(3,.row 4 (.st 3)),(4,.row 4 (.arr 4 .u64)),(5,.row 4 (.arr 4 .u64)),(6,.row 4 .str)],7,true⟩ [(.exit 0,⟨[p 0 0,(1,.b (.one 4 (.list .str)))],[(0,.box (some 0) [.whole 1,.nil,.whole 2,.whole 3,.whole 4,.whole 5,.one 1 (.int .i64),.whole 6,.one 1 (.int .i64),.one 1 .bool,.one 1 .bool]),(1,.row 4 (.st 1)),(2,.row 4 (.st 2)),(3,.row 4 (.st 3)),(4,.row 4 (.arr 4 .u64)),(5,.row 4 (.arr 4 .u64)),(6,.row 4 .str)],7,true⟩),(.ret,⟨[p 0 0,e 4 .bool],[(0,.box (some 0) [.whole 1,.nil,.whole 2,.whole 3,.whole 4,.whole 5,.one 1 (.int .i64),.whole 6,.one 1 (.int .i64),.one 1 .bool,.one 1 .bool]),(1,.row 4 (.st 1)),(2,.row 4 (.st 2)),(3,.row 4 (.st 3)),(4,.row 4 (.arr 4 .u64)),(5,.row 4 (.arr 4 .u64)),(6,.row 4 .str)],7,true⟩)],.e 42 .str,.c 57 [(.normal,⟨[p 0 0,(1,.b (.one 4 (.list .str))),e 6 (.int .i64)],[(0,.box (some 0) [.whole 1,.nil,.whole 2,.whole 3,.whole 4,.whole 5,.one 1 (.int .i64),.whole 6,.one 1 (.int .i64),.one 1 .bool,.one 1 .bool]),(1,.row 4 (.st 1)),(2,.row 4 (.st 2)),(3,.row 4 (.st 3)),(4,.row 4 (.arr 4 .u64)),(5,.row 4 (.arr 4 .u64)),(6,.row 4 .str)],7,true⟩)],.c 95 [(.ret,⟨[p 0 0,e 4 .bool],[(0,.box (some 0) [.whole 1,.nil,.whole 2,.whole 3,.whole 4,.whole 5,.one 1 (.int .i64),.whole 6,.one 1 (.int .i64),.one 1 .bool,.one 1 .bool]),(1,.row 4 (.st 1)),(2,.row 4 (.st 2)),(3,.row 4 (.st 3)),(4,.row 4 (.arr 4 .u64)),(5,.row 4 (.arr 4 .u64)),(6,.row 4 .str)],7,true⟩),(.normal,⟨[p 0 0,(1,.b (.one 4 (.list .str)))],[(0,.box (some 0) [.whole 1,.nil,.whole 2,.whole 3,.whole 4,.whole 5,.one 1 (.int .i64),.whole 6,.one 1 (.int .i64),.one 1 .bool,.one 1 .bool]),(1,.row 4 (.st 1)),(2,.row 4 (.st 2)),(3,.row 4 (.st 3)),(4,.row 4 (.arr 4 .u64)),(5,.row 4 (.arr 4 .u64)),(6,.row 4 .str)],7,true⟩)],.h ⟨[(0,some 0),(1,none),(2,none),(3,none),(4,none),(5,none),(6,none)],⟨[e 0 .bool],[(0,.box (some 0) [.whole 8,.nil,.whole 9,.whole 10,.whole 11,.whole 12,.one 1 (.int .i64),.whole 13,.one 1 (.int .i64),.one 1 .bool,.one 1 .bool]),(8,.row 4 (.st 1)),(9,.row 4 (.st 2)),(10,.row 4 (.st 3)),(11,.row 4 (.arr 4 .u64)),(12,.row 4 (.arr 4 .u64)),(13,.row 4 .str)],14,true⟩⟩,.c 108 [(.ret,⟨[p 0 0,e 4 .bool],[(0,.box (some 0) [.whole 1,.nil,.whole 2,.whole 3,.whole 4,.whole 5,.one 1 (.int .i64),.whole 6,.one 1 (.int .i64),.one 1 .bool,.one 1 .bool]),(1,.row 4 (.st 1)),(2,.row 4 (.st 2)),(3,.row 4 (.st 3)),(4,.row 4 (.arr 4 .u64)),(5,.row 4 (.arr 4 .u64)),(6,.row 4 .str)],7,true⟩),(.normal,⟨[p 0 0,(1,.b (.one 4 (.list .str)))],[(0,.box (some 0) [.whole 1,.nil,.whole 2,.whole 3,.whole 4,.whole 5,.one 1 (.int .i64),.whole 6,.one 1 (.int .i64),.one 1 .bool,.one 1 .bool]),(1,.row 4 (.st 1)),(2,.row 4 (.st 2)),(3,.row 4 (.st 3)),(4,.row 4 (.arr 4 .u64)),(5,.row 4 (.arr 4 .u64)),(6,.row 4 .str)],7,true⟩)],.h ⟨[(0,some 0),(1,none),(2,none),(3,none),(4,none),(5,none),(6,none)],⟨[e 0 .bool],[(0,.box (some 0) [.whole 8,.nil,.whole 9,.whole 10,.whole 11,.whole 12,.one 1 (.int .i64),.whole 13,.one 1 (.int .i64),.one 1 .bool,.one 1 .bool]),(8,.row 4 (.st 1)),(9,.row 4 (.st 2)),(10,.row 4 (.st 3)),(11,.row 4 (.arr 4 .u64)),(12,.row 4 (.arr 4 .u64)),(13,.row 4 .str)],14,true⟩⟩,.c 121 [(.ret,⟨[p 0 0,e 4 .bool],[(0,.box (some 0) [.whole 1,.nil,.whole 2,.whole 3,.whole 4,.whole 5,.one 1 (.int .i64),.whole 6,.one 1 (.int .i64),.one 1 .bool,.one 1 .bool]),(1,.row 4 (.st 1)),(2,.row 4 (.st 2)),(3,.row 4 (.st 3)),(4,.row 4 (.arr 4 .u64)),(5,.row 4 (.arr 4 .u64)),(6,.row 4 .str)],7,true⟩),(.normal,⟨[p 0 0,(1,.b (.one 4 (.list .str)))],[(0,.box (some 0) [.whole 1,.nil,.whole 2,.whole 3,.whole 4,.whole 5,.one 1 (.int .i64),.whole 6,.one 1 (.int .i64),.one 1 .bool,.one 1 .bool]),(1,.row 4 (.st 1)),(2,.row 4 (.st 2)),(3,.row 4 (.st 3)),(4,.row 4 (.arr 4 .u64)),(5,.row 4 (.arr 4 .u64)),(6,.row 4 .str)],7,true⟩)],.h ⟨[(0,some 0),(1,none),(2,none),(3,none),(4,none),(5,none),(6,none)],⟨[e 0 .bool],[(0,.box (some 0) [.whole 8,.nil,.whole 9,.whole 10,.whole 11,.whole 12,.one 1 (.int .i64),.whole 13,.one 1 (.int .i64),.one 1 .bool,.one 1 .bool]),(8,.row 4 (.st 1)),(9,.row 4 (.st 2)),(10,.row 4 (.st 3)),(11,.row 4 (.arr 4 .u64)),(12,.row 4 (.arr 4 .u64)),(13,.row 4 .str)],14,true⟩⟩,.h ⟨[(0,some 0),(1,none),(2,none),(3,none),(4,none),(5,none),(6,none)],⟨[e 0 .bool],[(0,.box (some 0) [.whole 8,.nil,.whole 9,.whole 10,.whole 11,.whole 12,.one 1 (.int .i64),.whole 13,.one 1 (.int .i64),.one 1 .bool,.one 1 .bool]),(8,.row 4 (.st 1)),(9,.row 4 (.st 2)),(10,.row 4 (.st 3)),(11,.row 4 (.arr 4 .u64)),(12,.row 4 (.arr 4 .u64)),(13,.row 4 .str)],14,true⟩⟩,.h ⟨[(0,some 0),(1,none),(2,none),(3,none),(4,none),(5,none),(6,none)],⟨[e 0 .bool],[(0,.box (some 0) [.whole 8,.nil,.whole 9,.whole 10,.whole 11,.whole 12,.one 1 (.int .i64),.whole 13,.one 1 (.int .i64),.one 1 .bool,.one 1 .bool]),(8,.row 4 (.st 1)),(9,.row 4 (.st 2)),(10,.row 4 (.st 3)),(11,.row 4 (.arr 4 .u64)),(12,.row 4 (.arr 4 .u64)),(13,.row 4 .str)],14,true⟩⟩] [enP (zep k),enH (zoP k),enH (zoO k),enH (zoN k),enH (zoM k),enH (zoL k)] (by kernel_rfl) (by kernel_rfl) fun _=>by kernel_rfl
def zmA (k:Nat):LB ((List Int)×(List Int)×Int×Bool×(List zh)×(List (List Int))×Unit) (Bool×(List zh)×(List (List Int))×Unit):=fun (v0,v1,v2,v3,v4,v5,_)=>
 (bif decide (v2<(v0.length:Int)) then
  (at? v0 v2).bind fun v6=>
  (at? v0 v2).bind fun v7=>
  (at? v5 v7).bind fun v8=>
  (List.get?Internal v5 (Int.toNat v7)).bind fun v9=>
  (List.get?Internal v5 (Int.toNat v7)).bind fun v10=>
  room ((List.length ([]:List Int))+(List.length v10)) 8 (room ((List.length (([]:List Int)++v10))+(List.length v1)) 8 ((at? v5 v6).bind fun v11=>
  (List.get?Internal v5 (Int.toNat v6)).bind fun v12=>
  some (.inl (v0,v1,(w64 (v2+(1:Int))),v3,v4,(List.set v5 (Int.toNat v6) ((([]:List Int)++v10)++v1)),()))))
 else
  some (.inr (v3,v4,v5,())))
def G89 (k:Nat):List Int×List Int×Bool×List zh×List (List Int)×Unit→(Option (Bool×(List zh)×(List (List Int))×Unit)):=fun (a0,a1,a2,a3,a4,_)=>
 (iter k (zmA k) (a0,a1,(0:Int),a2,a3,a4,())).bind fun (v13,v14,v15,_)=>
 some (v13,v14,v15,())
theorem zop (k:Nat):HOk (S:=SyS) prog 89 zlC zlB (G89 k):=HOk.mk (k:=k) [.l ⟨[p 0 0,(1,.b (.one 4 (.list (.int .i64)))),(2,.b (.one 4 (.list (.int .i64)))),e 6 (.int .i64)],[(0,.box (some 0) [.whole 1,.nil,.nil,.whole 2,.one 1 .bool]),(1,.row 1 (.arr 4 .u64)),(2,.row 4 (.own (.int .i64)))],3,true⟩ [(.exit 0,⟨[p 0 0],[(0,.box (some 0) [.whole 1,.nil,.nil,.whole 2,.one 1 .bool]),(1,.row 1 (.arr 4 .u64)),(2,.row 4 (.own (.int .i64)))],3,true⟩)],.e 26 (.int .i64),.e 37 (.int .i64),.e 39 (.int .i64),.e 41 (.own (.int .i64))] [] (by kernel_rfl) (by kernel_rfl) fun _=>by kernel_rfl
abbrev E65:=(RxT×Bool×(List zh)×(List (List Int))×Unit)→(Option ((List Int)×(List Int)×Bool×Bool×(List zh)×(List (List Int))×Unit))
def zm5 (k:Nat)(e:E65):LB (Int×Bool×(List zh)×(List (List Int))×RxT×Bool×Bool×(List Int)×(List Int)×Unit) (Bool×(List zh)×(List (List Int))×Bool×Bool×(List Int)×(List Int)×Unit):=fun (v0,v1,v2,v3,v4,v5,v6,v7,v8,_)=>
 (bif decide (v0<((RxT.a v4).length:Int)) then
  (at? (RxT.a v4) v0).bind fun v9=>
  (e (v9,v1,v2,v3,())).bind fun (v10,v11,v12,v13,v14,v15,_)=>
  (room ((List.length v7)+(List.length v10)) 8 (room ((List.length v8)+(List.length v11)) 8 ((bif v6 then
    some (v0,v13,v14,v15,v4,v5,true,(v7++v10),(v8++v11),())
   else
    some (v0,v13,v14,v15,v4,v5,v12,(v7++v10),(v8++v11),()))))).bind fun (v16,v17,v18,v19,v20,v21,v22,v23,v24,_)=>
  some (.inl ((w64 (v16+(1:Int))),v17,v18,v19,v20,v21,v22,v23,v24,()))
 else
  some (.inr (v1,v2,v3,v5,v6,v7,v8,())))
def zm4 (k:Nat)(e:E65):LB (Int×Bool×(List zh)×(List (List Int))×RxT×Bool×(List Int)×(List Int)×Bool×Unit) (Bool×(List zh)×(List (List Int))×Bool×(List Int)×(List Int)×Bool×Unit):=fun (v32,v33,v34,v35,v36,v37,v38,v39,v40,_)=>
 (bif decide (v32<((RxT.a v36).length:Int)) then
  (at? (RxT.a v36) v32).bind fun v41=>
  (e (v41,v33,v34,v35,())).bind fun (v42,v43,v44,v45,v46,v47,_)=>
  (G89 k (v39,v42,v45,v46,v47,())).bind fun (v48,v49,v50,_)=>
  ((bif v40 then
    room ((List.length ([]:List Int))+(List.length v38)) 8 (room ((List.length (([]:List Int)++v38))+(List.length v42)) 8 (some (v32,v48,v49,v50,v36,v37,((([]:List Int)++v38)++v42),v39,v40,v42,v43,v44,())))
   else
    some (v32,v48,v49,v50,v36,v37,v38,v39,v40,v42,v43,v44,()))).bind fun (v51,v52,v53,v54,v55,v56,v57,v58,v59,v60,v61,v62,_)=>
  ((bif v62 then
    room ((List.length ([]:List Int))+(List.length v58)) 8 (room ((List.length (([]:List Int)++v58))+(List.length v61)) 8 (some (v51,v52,v53,v54,v55,v56,v57,((([]:List Int)++v58)++v61),v59,v60,v61,v62,())))
   else
    some (v51,v52,v53,v54,v55,v56,v57,v61,v59,v60,v61,v62,()))).bind fun (v63,v64,v65,v66,v67,v68,v69,v70,v71,v72,v73,v74,_)=>
  ((bif v71 then
    some (v63,v64,v65,v66,v67,v68,v69,v70,v74,())
   else
    some (v63,v64,v65,v66,v67,v68,v69,v70,false,()))).bind fun (v75,v76,v77,v78,v79,v80,v81,v82,v83,_)=>
  some (.inl ((w64 (v75+(1:Int))),v76,v77,v78,v79,v80,v81,v82,v83,()))
 else
  some (.inr (v33,v34,v35,v37,v38,v39,v40,())))
def zlk (k:Nat)(e:E65):RxT×Bool×List zh×List (List Int)×Unit→(Option ((List Int)×(List Int)×Bool×Bool×(List zh)×(List (List Int))×Unit)):=fun (a0,a1,a2,a3,_)=>
 ((bif ((RxT.k a0)==(1:Int)) then
   room ((List.length a2)+(List.length ([(RxT.s a0)]:List zh))) 32 ((bif (List.isEmpty ([([]:List Int)]:List (List Int))) then
    (Option.none)
   else
    room ((List.length a3)+(List.length ([([]:List Int)]:List (List Int)))) 24 (some (.inl (a1,(a2++([(RxT.s a0)]:List zh)),(a3++([([]:List Int)]:List (List Int))),([(a2.length:Int)]:List Int),([(a2.length:Int)]:List Int),false,())))))
  else
   ((bif ((RxT.k a0)==(3:Int)) then
     (iter k (zm5 k e) ((0:Int),a1,a2,a3,a0,false,false,([]:List Int),([]:List Int),())).bind fun (v25,v26,v27,v28,v29,v30,v31,_)=>
     some (.inl (v25,v26,v27,v30,v31,v29,()))
    else
     (bif ((RxT.k a0)==(2:Int)) then
      (iter k (zm4 k e) ((0:Int),a1,a2,a3,a0,false,([]:List Int),([]:List Int),true,())).bind fun (v84,v85,v86,v87,v88,v89,v90,_)=>
      some (.inl (v84,v85,v86,v88,v89,v90,()))
     else
      some (.inr (a1,a2,a3,a0,false,())))):Option ((Bool×(List zh)×(List (List Int))×(List Int)×(List Int)×Bool×Unit) ⊕ (Bool×(List zh)×(List (List Int))×RxT×Bool×Unit))).bind fun
   | .inl (v91,v92,v93,v94,v95,v96,_)=>some (.inl (v91,v92,v93,v94,v95,v96,()))
   | .inr (v97,v98,v99,v100,v101,_)=>some (.inr (v97,v98,v99,v100,v101,()))):Option ((Bool×(List zh)×(List (List Int))×(List Int)×(List Int)×Bool×Unit) ⊕ (Bool×(List zh)×(List (List Int))×RxT×Bool×Unit))).bind fun
 | .inl (v102,v103,v104,v105,v106,v107,_)=>some (v105,v106,v107,v102,v103,v104,())
 | .inr (v108,v109,v110,v111,v112,_)=>(at? (RxT.a v111) (0:Int)).bind fun v113=>
  (e (v113,v108,v109,v110,())).bind fun (v114,v115,v116,v117,v118,v119,_)=>
  ((bif ((RxT.k v111) != (6:Int)) then
    (G89 k (v115,v114,v117,v118,v119,())).bind fun (v120,v121,v122,_)=>
    some (v120,v121,v122,v111,v112,v114,v115,v116,())
   else
    some (v117,v118,v119,v111,v112,v114,v115,v116,()))).bind fun (v123,v124,v125,v126,v127,v128,v129,v130,_)=>
  ((bif v130 then
    some (v123,v124,v125,v127,v128,v129,true,())
   else
    some (v123,v124,v125,v127,v128,v129,((RxT.k v126) != (5:Int)),()))).bind fun (v131,v132,v133,v134,v135,v136,v137,_)=>
  some (v135,v136,v137,v131,v132,v133,())
theorem zlO (k:Nat)(e1:E65)(h1:HOk (S:=SyS) prog 65 zcg zcf e1):HOk (S:=SyS) prog 65 zcg zcf (zlk k e1):=HOk.mk (k:=k) [.c 17 [(.ret,⟨[p 0 0,p 4 3],[(0,.box (some 0) [.whole 1,.nil,.nil,.whole 2,.one 1 .bool]),(1,.row 1 (.arr 4 .u64)),(2,.row 4 (.own (.int .i64))),(3,.box none [.nil,.one 2 (.list (.int .i64)),.one 4 (.list (.int .i64)),.nil,.one 1 .bool])],4,true⟩),(.normal,⟨[p 0 0,p 3 3,p 4 4],[(0,.box (some 0) [.whole 1,.nil,.nil,.whole 2,.one 1 .bool]),(1,.row 1 (.arr 4 .u64)),(2,.row 4 (.own (.int .i64))),(3,.box none [.one 1 (.st 0)]),(4,.box none [.nil,.nil,.nil,.nil,.one 1 .bool])],5,true⟩)],.e 37 (.arr 4 .u64),.e 38 (.arr 4 .u64),.e 43 (.own (.int .i64)),.e 44 (.own (.int .i64)),.e 55 (.int .i64),.z 56 43,.e 57 (.int .i64),.z 58 45,.c 66 [(.ret,⟨[p 0 0,p 4 3],[(0,.box (some 0) [.whole 1,.nil,.nil,.whole 2,.one 1 .bool]),(1,.row 1 (.arr 4 .u64)),(2,.row 4 (.own (.int .i64))),(3,.box none [.nil,.one 2 (.list (.int .i64)),.one 4 (.list (.int .i64)),.nil,.one 1 .bool])],4,true⟩),(.normal,⟨[p 0 0,p 3 3,p 4 4],[(0,.box (some 0) [.whole 1,.nil,.nil,.whole 2,.one 1 .bool]),(1,.row 1 (.arr 4 .u64)),(2,.row 4 (.own (.int .i64))),(3,.box none [.one 1 (.st 0)]),(4,.box none [.nil,.nil,.nil,.nil,.one 1 .bool])],5,true⟩)],.l ⟨[p 0 0,p 3 3,p 4 4,p 6 5,e 7 (.int .i64)],[(0,.box (some 0) [.whole 1,.nil,.nil,.whole 2,.one 1 .bool]),(1,.row 1 (.arr 4 .u64)),(2,.row 4 (.own (.int .i64))),(3,.box none [.one 1 (.st 0)]),(4,.box none [.nil,.nil,.nil,.nil,.one 1 .bool]),(5,.box none [.nil,.whole 6,.whole 7,.nil,.one 1 .bool]),(6,.row 4 (.int .i64)),(7,.row 4 (.int .i64))],8,true⟩ [(.exit 1,⟨[p 0 0,p 4 3,p 6 4],[(0,.box (some 0) [.whole 1,.nil,.nil,.whole 2,.one 1 .bool]),(1,.row 1 (.arr 4 .u64)),(2,.row 4 (.own (.int .i64))),(3,.box none [.nil,.nil,.nil,.nil,.one 1 .bool]),(4,.box none [.nil,.whole 5,.whole 6,.nil,.one 1 .bool]),(5,.row 4 (.int .i64)),(6,.row 4 (.int .i64))],7,true⟩)],.h ⟨[(0,some 0),(1,none),(2,none)],⟨[(0,.agg [.nil,.one 4 (.list (.int .i64)),.one 4 (.list (.int .i64)),.nil,.one 1 .bool])],[(0,.box (some 0) [.whole 9,.nil,.nil,.whole 10,.one 1 .bool]),(9,.row 1 (.arr 4 .u64)),(10,.row 4 (.own (.int .i64)))],11,true⟩⟩,.c 102 [(.normal,⟨[p 0 0,p 3 3,p 4 4,p 6 5,e 7 (.int .i64)],[(0,.box (some 0) [.whole 1,.nil,.nil,.whole 2,.one 1 .bool]),(1,.row 1 (.arr 4 .u64)),(2,.row 4 (.own (.int .i64))),(3,.box none [.one 1 (.st 0)]),(4,.box none [.nil,.nil,.nil,.nil,.one 1 .bool]),(5,.box none [.nil,.whole 6,.whole 7,.nil,.one 1 .bool]),(6,.row 4 (.int .i64)),(7,.row 4 (.int .i64))],8,true⟩)],.e 107 (.int .i64),.e 112 (.int .i64),.y 134 82 1,.y 134 82 2,.l ⟨[p 0 0,p 3 3,p 4 4,p 9 5,e 10 (.int .i64)],[(0,.box (some 0) [.whole 1,.nil,.nil,.whole 2,.one 1 .bool]),(1,.row 1 (.arr 4 .u64)),(2,.row 4 (.own (.int .i64))),(3,.box none [.one 1 (.st 0)]),(4,.box none [.nil,.nil,.nil,.nil,.one 1 .bool]),(5,.box none [.nil,.one 2 (.list (.int .i64)),.one 4 (.list (.int .i64)),.nil,.one 1 .bool])],6,true⟩ [(.exit 3,⟨[p 0 0,p 4 3,p 9 4],[(0,.box (some 0) [.whole 1,.nil,.nil,.whole 2,.one 1 .bool]),(1,.row 1 (.arr 4 .u64)),(2,.row 4 (.own (.int .i64))),(3,.box none [.nil,.nil,.nil,.nil,.one 1 .bool]),(4,.box none [.nil,.one 2 (.list (.int .i64)),.one 4 (.list (.int .i64)),.nil,.one 1 .bool])],5,true⟩)],.h ⟨[(0,some 0),(1,none),(2,none)],⟨[(0,.agg [.nil,.one 4 (.list (.int .i64)),.one 4 (.list (.int .i64)),.nil,.one 1 .bool])],[(0,.box (some 0) [.whole 7,.nil,.nil,.whole 8,.one 1 .bool]),(7,.row 1 (.arr 4 .u64)),(8,.row 4 (.own (.int .i64)))],9,true⟩⟩,.h ⟨[(0,some 0),(7,none),(8,none)],⟨[],[(0,.box (some 0) [.whole 11,.nil,.nil,.whole 12,.one 1 .bool]),(11,.row 1 (.arr 4 .u64)),(12,.row 4 (.own (.int .i64)))],13,true⟩⟩,.c 194 [(.normal,⟨[p 0 0,p 3 3,p 4 4,p 9 5,e 10 (.int .i64),p 11 6],[(0,.box (some 0) [.whole 1,.nil,.nil,.whole 2,.one 1 .bool]),(1,.row 1 (.arr 4 .u64)),(2,.row 4 (.own (.int .i64))),(3,.box none [.one 1 (.st 0)]),(4,.box none [.nil,.nil,.nil,.nil,.one 1 .bool]),(5,.box none [.nil,.one 2 (.list (.int .i64)),.one 4 (.list (.int .i64)),.nil,.one 1 .bool]),(6,.box none [.nil,.one 4 (.list (.int .i64)),.one 4 (.list (.int .i64)),.nil,.one 1 .bool])],7,true⟩)],.g 195 [.fz 114],.e 196 (.int .i64),.e 199 (.int .i64),.e 202 (.int .i64),.c 212 [(.normal,⟨[p 0 0,p 3 3,p 4 4,p 9 5,e 10 (.int .i64),p 11 6],[(0,.box (some 0) [.whole 1,.nil,.nil,.whole 2,.one 1 .bool]),(1,.row 1 (.arr 4 .u64)),(2,.row 4 (.own (.int .i64))),(3,.box none [.one 1 (.st 0)]),(4,.box none [.nil,.nil,.nil,.nil,.one 1 .bool]),(5,.box none [.nil,.one 2 (.list (.int .i64)),.one 4 (.list (.int .i64)),.nil,.one 1 .bool]),(6,.box none [.nil,.one 4 (.list (.int .i64)),.one 4 (.list (.int .i64)),.nil,.one 1 .bool])],7,true⟩)],.g 213 [.fz 124],.e 214 (.int .i64),.e 217 (.int .i64),.e 220 (.int .i64),.c 230 [(.normal,⟨[p 0 0,p 3 3,p 4 4,p 9 5,e 10 (.int .i64)],[(0,.box (some 0) [.whole 1,.nil,.nil,.whole 2,.one 1 .bool]),(1,.row 1 (.arr 4 .u64)),(2,.row 4 (.own (.int .i64))),(3,.box none [.one 1 (.st 0)]),(4,.box none [.nil,.nil,.nil,.nil,.one 1 .bool]),(5,.box none [.nil,.one 2 (.list (.int .i64)),.one 4 (.list (.int .i64)),.nil,.one 1 .bool])],6,true⟩)],.h ⟨[(0,some 0),(1,none),(2,none)],⟨[(0,.agg [.nil,.one 4 (.list (.int .i64)),.one 4 (.list (.int .i64)),.nil,.one 1 .bool])],[(0,.box (some 0) [.whole 6,.nil,.nil,.whole 7,.one 1 .bool]),(6,.row 1 (.arr 4 .u64)),(7,.row 4 (.own (.int .i64)))],8,true⟩⟩,.c 268 [(.normal,⟨[p 0 0,p 3 3,p 4 4,p 12 5],[(0,.box (some 0) [.whole 1,.nil,.nil,.whole 2,.one 1 .bool]),(1,.row 1 (.arr 4 .u64)),(2,.row 4 (.own (.int .i64))),(3,.box none [.one 1 (.st 0)]),(4,.box none [.nil,.nil,.nil,.nil,.one 1 .bool]),(5,.box none [.nil,.one 4 (.list (.int .i64)),.one 4 (.list (.int .i64)),.nil,.one 1 .bool])],6,true⟩)],.h ⟨[(0,some 0),(6,none),(7,none)],⟨[],[(0,.box (some 0) [.whole 10,.nil,.nil,.whole 11,.one 1 .bool]),(10,.row 1 (.arr 4 .u64)),(11,.row 4 (.own (.int .i64)))],12,true⟩⟩,.c 278 [(.normal,⟨[p 0 0,p 4 3,p 12 4],[(0,.box (some 0) [.whole 1,.nil,.nil,.whole 2,.one 1 .bool]),(1,.row 1 (.arr 4 .u64)),(2,.row 4 (.own (.int .i64))),(3,.box none [.nil,.nil,.nil,.nil,.one 1 .bool]),(4,.box none [.nil,.one 4 (.list (.int .i64)),.one 4 (.list (.int .i64)),.nil,.one 1 .bool])],5,true⟩)]] [enH h1,enH (zop k)] (by kernel_rfl) (by kernel_rfl) fun _=>by kernel_rfl
def P65 (k:Nat):Nat→ {e:E65 // HOk (S:=SyS) prog 65 zcg zcf e}
 | 0=>⟨fun _=>none,fun _ _ h=>nomatch h⟩
 | d+1=>⟨zlk k (P65 k d).1,zlO k _ (P65 k d).2⟩
def G65 (k:Nat):E65:=(P65 k k).1
theorem zoH (k:Nat):HOk (S:=SyS) prog 65 zcg zcf (G65 k):=(P65 k k).2
def zm2 (k:Nat):LB ((List Int)×Int×Int×(List Int)×Unit) ((List Int)×Int×Int×(List Int)×Unit):=fun (v3,v4,v5,v6,_)=>
 ((bif decide (v5<(v6.length:Int)) then
   (at? v6 v5).bind fun v7=>
   (List.get?Internal v6 (Int.toNat v5)).bind fun v8=>
   (at? v3 v4).bind fun v9=>
   some (v3,v4,v5,decide (v8<v9),v6,())
  else
   some (v3,v4,v5,false,v6,()))).bind fun (v10,v11,v12,v13,v14,_)=>
 (bif v13 then
  some (.inl (v10,v11,(w64 (v12+(1:Int))),v14,()))
 else
  some (.inr (v10,v11,v12,v14,())))
def zm3 (k:Nat):LB ((List Int)×Int×(List Int)×Unit) ((List Int)×Unit):=fun (v0,v1,v2,_)=>
 (bif decide (v1<(v0.length:Int)) then
  (iter k (zm2 k) (v0,v1,(0:Int),v2,())).bind fun (v15,v16,v17,v18,_)=>
  ((bif (v17==(v18.length:Int)) then
    some (v15,v16,v17,true,v18,())
   else
    (at? v18 v17).bind fun v19=>
    (List.get?Internal v18 (Int.toNat v17)).bind fun v20=>
    (at? v15 v16).bind fun v21=>
    some (v15,v16,v17,(v20 != v21),v18,()))).bind fun (v22,v23,v24,v25,v26,_)=>
  ((bif v25 then
    (hi? (List.length v26) v24).bind fun v27=>
    room ((List.length ([]:List Int))+(List.length (List.take (v27-0) (List.drop 0 v26)))) 8 ((at? v22 v23).bind fun v28=>
    room ((List.length (([]:List Int)++(List.take (v27-0) (List.drop 0 v26))))+(List.length ([v28]:List Int))) 8 ((hi? (List.length v26) v24).bind fun v29=>
    room ((List.length ((([]:List Int)++(List.take (v27-0) (List.drop 0 v26)))++([v28]:List Int)))+(List.length (List.take ((List.length v26)-v29) (List.drop v29 v26)))) 8 (some (v22,v23,(((([]:List Int)++(List.take (v27-0) (List.drop 0 v26)))++([v28]:List Int))++(List.take ((List.length v26)-v29) (List.drop v29 v26))),()))))
   else
    some (v22,v23,v26,()))).bind fun (v30,v31,v32,_)=>
  some (.inl (v30,(w64 (v31+(1:Int))),v32,()))
 else
  some (.inr (v2,())))
def G66 (k:Nat):(List Int)×Unit→(Option ((List Int)×Unit)):=fun (a0,_)=>
 (iter k (zm3 k) (a0,(0:Int),([]:List Int),())).bind fun (v33,_)=>
 some (v33,())
theorem zoG (k:Nat):FOk (S:=SyS) prog 66 [.val (.list (.int .i64))] [.own (.int .i64)] (G66 k):=FOk.mk (k:=k) [.l ⟨[e 0 (.list (.int .i64)),(3,.b (.whole 1)),e 4 (.int .i64)],[(1,.row 1 (.int .i64))],2,false⟩ [(.exit 0,⟨[(3,.b (.whole 1))],[(1,.row 1 (.int .i64))],2,false⟩)],.l ⟨[e 0 (.list (.int .i64)),(3,.b (.whole 1)),e 4 (.int .i64),e 5 (.int .i64)],[(1,.row 1 (.int .i64))],2,false⟩ [(.exit 2,⟨[e 0 (.list (.int .i64)),(3,.b (.whole 1)),e 4 (.int .i64),e 5 (.int .i64)],[(1,.row 1 (.int .i64))],2,false⟩)],.c 35 [(.normal,⟨[e 0 (.list (.int .i64)),(3,.b (.whole 1)),e 4 (.int .i64),e 5 (.int .i64),e 26 .bool],[(1,.row 1 (.int .i64))],2,false⟩)],.c 60 [(.normal,⟨[e 0 (.list (.int .i64)),(3,.b (.whole 1)),e 4 (.int .i64),e 5 (.int .i64),e 43 .bool],[(1,.row 1 (.int .i64))],2,false⟩)],.c 77 [(.normal,⟨[e 0 (.list (.int .i64)),(3,.b (.whole 1)),e 4 (.int .i64)],[(1,.row 1 (.int .i64))],2,false⟩)],.e 79 (.int .i64),.e 83 (.int .i64),.e 88 (.int .i64),.e 89 (.int .i64),.e 93 (.int .i64)] [] (by kernel_rfl) fun _=>by kernel_rfl
def znA (k:Nat):LB (Int×Bool×Bool×(List zh)×(List (List Int))×Bool×(List Int)×(List Int)×(List (List Int))×Unit) (Bool×Bool×(List zh)×(List Int)×(List Int)×(List (List Int))×Unit):=fun (v9,v10,v11,v12,v13,v14,v15,v16,v17,_)=>
 (bif decide (v9<(v13.length:Int)) then
  (at? v13 v9).bind fun v18=>
  (List.get?Internal v13 (Int.toNat v9)).bind fun v19=>
  (G66 k (v19,())).bind fun (v20,_)=>
  (bif (List.isEmpty ([v20]:List (List Int))) then
   (Option.none)
  else
   room ((List.length v17)+(List.length ([v20]:List (List Int)))) 24 (some (.inl ((w64 (v9+(1:Int))),v10,v11,v12,v13,v14,v15,v16,(v17++([v20]:List (List Int))),()))))
 else
  some (.inr (v10,v14,v12,v15,v16,v17,())))
def G36 (k:Nat):RxT×Unit→(Option (zk×Int×Unit)):=fun (a0,_)=>
 (G64 k (a0,())).bind fun (v0,_)=>
 (bif (v0 != (0:Int)) then
  some ((([]:List zh),([]:List Int),([]:List Int),([]:List (List Int)),false,()),v0,())
 else
  (G65 k (a0,false,([]:List zh),([]:List (List Int)),())).bind fun (v1,v2,v3,v4,v5,v6,_)=>
  (bif decide ((v5.length:Int)>(40:Int)) then
   some ((([]:List zh),([]:List Int),([]:List Int),([]:List (List Int)),false,()),(6:Int),())
  else
   (G66 k (v1,())).bind fun (v7,_)=>
   (G66 k (v2,())).bind fun (v8,_)=>
   (iter k (znA k) ((0:Int),false,v4,v5,v6,v3,v7,v8,([]:List (List Int)),())).bind fun (v21,v22,v23,v24,v25,v26,_)=>
   some ((v23,v24,v25,v26,v22,()),(0:Int),())))
theorem ziG (k:Nat):FOk (S:=SyS) prog 36 [.val (.st 0)] [.val (.st 7),.val (.int .i64)] (G36 k):=FOk.mk (k:=k) [.h ⟨[(3,some 0)],⟨[(0,.agg [.nil,.one 4 (.list (.int .i64)),.one 4 (.list (.int .i64)),.nil,.one 1 .bool])],[(3,.box (some 0) [.whole 5,.nil,.nil,.whole 6,.one 1 .bool]),(5,.row 1 (.arr 4 .u64)),(6,.row 4 (.own (.int .i64)))],7,true⟩⟩,.w 78 5 3,.l ⟨[p 2 1,p 5 2,p 7 5,e 8 (.int .i64)],[(1,.box none [.nil,.nil,.nil,.nil,.one 1 .bool]),(2,.box none [.whole 3,.nil,.nil,.whole 4,.one 1 .bool]),(3,.row 1 (.arr 4 .u64)),(4,.row 5 (.list (.int .i64))),(5,.box none [.whole 3,.whole 6,.whole 7,.whole 8,.one 1 .bool]),(6,.row 1 (.int .i64)),(7,.row 1 (.int .i64)),(8,.row 1 (.own (.int .i64)))],9,true⟩ [(.exit 0,⟨[p 2 1,p 7 2],[(1,.box none [.nil,.nil,.nil,.nil,.one 1 .bool]),(2,.box none [.whole 3,.whole 4,.whole 5,.whole 6,.one 1 .bool]),(3,.row 1 (.arr 4 .u64)),(4,.row 1 (.int .i64)),(5,.row 1 (.int .i64)),(6,.row 1 (.own (.int .i64)))],7,true⟩)],.e 107 (.own (.int .i64)),.e 108 (.own (.int .i64))] [enP (zkS k),enH (zoH k),enP (zoG k)] (by kernel_rfl) fun _=>by kernel_rfl
def zni (k:Nat):LB (Int×Int×(List (List Bool))×Unit) ((List (List Bool))×Unit):=fun (v1,v2,v3,_)=>
 (bif decide (v2<v1) then
  (mkS 1 v1).bind fun v4=>
  (at? v3 v2).bind fun v5=>
  (List.get?Internal v3 (Int.toNat v2)).bind fun v6=>
  some (.inl (v1,(w64 (v2+(1:Int))),(List.set v3 (Int.toNat v2) (List.replicate v4 false)),()))
 else
  some (.inr (v3,())))
def G49 (k:Nat):Int×Unit→(Option ((List (List Bool))×Unit)):=fun (a0,_)=>
 (mkS 24 a0).bind fun v0=>
 (iter k (zni k) (a0,(0:Int),(List.replicate v0 ([]:List Bool)),())).bind fun (v7,_)=>
 some (v7,())
theorem ziE (k:Nat):HOk (S:=SyS) prog 49 zkG zbl (G49 k):=HOk.mk (k:=k) [.e 7 (.own .bool),.l ⟨[e 0 (.int .i64),(3,.b (.whole 1)),e 4 (.int .i64)],[(1,.row 1 (.own .bool))],2,false⟩ [(.exit 0,⟨[(3,.b (.whole 1))],[(1,.row 1 (.own .bool))],2,false⟩)],.e 33 (.own .bool)] [] (by kernel_rfl) (by kernel_rfl) fun _=>by kernel_rfl
def znh (k:Nat):LB (Int×Int×(List (List Bool))×Unit) ((List (List Bool))×Unit):=fun (v1,v2,v3,_)=>
 (bif decide (v2<v1) then
  (at? v3 v2).bind fun v4=>
  (List.get?Internal v3 (Int.toNat v2)).bind fun v5=>
  (List.get?Internal v3 (Int.toNat v2)).bind fun v6=>
  (at? v6 v2).bind fun v7=>
  (List.get?Internal v3 (Int.toNat v2)).bind fun v8=>
  (List.get?Internal v8 (Int.toNat v2)).bind fun v9=>
  some (.inl (v1,(w64 (v2+(1:Int))),(List.set v3 (Int.toNat v2) (List.set v8 (Int.toNat v2) true)),()))
 else
  some (.inr (v3,())))
def G50 (k:Nat):Int×Unit→(Option ((List (List Bool))×Unit)):=fun (a0,_)=>
 (G49 k (a0,())).bind fun (v0,_)=>
 (iter k (znh k) (a0,(0:Int),v0,())).bind fun (v10,_)=>
 some (v10,())
theorem zoR (k:Nat):HOk (S:=SyS) prog 50 zkG zbl (G50 k):=HOk.mk (k:=k) [.h ⟨[],⟨[(0,.b (.whole 1))],[(1,.row 1 (.own .bool))],2,false⟩⟩,.l ⟨[e 0 (.int .i64),(3,.b (.whole 1)),e 4 (.int .i64)],[(1,.row 1 (.own .bool))],2,false⟩ [(.exit 0,⟨[(3,.b (.whole 1))],[(1,.row 1 (.own .bool))],2,false⟩)]] [enH (ziE k)] (by kernel_rfl) (by kernel_rfl) fun _=>by kernel_rfl
def zne (k:Nat):LB (Int×Int×Int×(List (List Bool))×(List (List Bool))×(List (List Bool))×Unit) (Int×Int×(List (List Bool))×(List (List Bool))×(List (List Bool))×Unit):=fun (v10,v11,v12,v13,v14,v15,_)=>
 ((bif decide (v12<(v13.length:Int)) then
   (at? v13 v10).bind fun v16=>
   (List.get?Internal v13 (Int.toNat v10)).bind fun v17=>
   (List.get?Internal v13 (Int.toNat v10)).bind fun v18=>
   (at? v18 v11).bind fun v19=>
   (List.get?Internal v13 (Int.toNat v10)).bind fun v20=>
   (List.get?Internal v20 (Int.toNat v11)).bind fun v21=>
   some (v10,v11,v12,v21,v13,v14,v15,())
  else
   some (v10,v11,v12,false,v13,v14,v15,()))).bind fun (v22,v23,v24,v25,v26,v27,v28,_)=>
 (bif v25 then
  ((at? v28 v22).bind fun v29=>
   (List.get?Internal v28 (Int.toNat v22)).bind fun v30=>
   (at? v28 v22).bind fun v31=>
   (List.get?Internal v28 (Int.toNat v22)).bind fun v32=>
   (List.get?Internal v28 (Int.toNat v22)).bind fun v33=>
   (at? v33 v24).bind fun v34=>
   (List.get?Internal v28 (Int.toNat v22)).bind fun v35=>
   (List.get?Internal v35 (Int.toNat v24)).bind fun v36=>
   (bif v36 then
    (List.get?Internal v28 (Int.toNat v22)).bind fun v37=>
    (at? v37 v24).bind fun v38=>
    (List.get?Internal v28 (Int.toNat v22)).bind fun v39=>
    (List.get?Internal v39 (Int.toNat v24)).bind fun v40=>
    some (v22,v23,v24,v26,v27,(List.set v28 (Int.toNat v22) (List.set v39 (Int.toNat v24) true)),())
   else
    (at? v27 v23).bind fun v41=>
    (List.get?Internal v27 (Int.toNat v23)).bind fun v42=>
    (List.get?Internal v27 (Int.toNat v23)).bind fun v43=>
    (at? v43 v24).bind fun v44=>
    (List.get?Internal v27 (Int.toNat v23)).bind fun v45=>
    (List.get?Internal v45 (Int.toNat v24)).bind fun v46=>
    (List.get?Internal v28 (Int.toNat v22)).bind fun v47=>
    (at? v47 v24).bind fun v48=>
    (List.get?Internal v28 (Int.toNat v22)).bind fun v49=>
    (List.get?Internal v49 (Int.toNat v24)).bind fun v50=>
    some (v22,v23,v24,v26,v27,(List.set v28 (Int.toNat v22) (List.set v49 (Int.toNat v24) v46)),()))).bind fun (v51,v52,v53,v54,v55,v56,_)=>
  some (.inl (v51,v52,(w64 (v53+(1:Int))),v54,v55,v56,()))
 else
  some (.inr (v22,v23,v26,v27,v28,())))
def znf (k:Nat):LB (Int×Int×(List (List Bool))×(List (List Bool))×(List (List Bool))×Unit) (Int×(List (List Bool))×(List (List Bool))×(List (List Bool))×Unit):=fun (v5,v6,v7,v8,v9,_)=>
 (bif decide (v6<(v7.length:Int)) then
  (iter k (zne k) (v5,v6,v6,v7,v8,v9,())).bind fun (v57,v58,v59,v60,v61,_)=>
  some (.inl (v57,(w64 (v58+(1:Int))),v59,v60,v61,()))
 else
  some (.inr (v5,v7,v8,v9,())))
def zng (k:Nat):LB (Int×(List (List Bool))×(List (List Bool))×(List (List Bool))×Unit) ((List (List Bool))×Unit):=fun (v1,v2,v3,v4,_)=>
 (bif decide (v1<(v2.length:Int)) then
  (iter k (znf k) (v1,v1,v2,v3,v4,())).bind fun (v62,v63,v64,v65,_)=>
  some (.inl ((w64 (v62+(1:Int))),v63,v64,v65,()))
 else
  some (.inr (v4,())))
def G51 (k:Nat):List (List Bool)×List (List Bool)×Unit→(Option ((List (List Bool))×Unit)):=fun (a0,a1,_)=>
 (G49 k ((a0.length:Int),())).bind fun (v0,_)=>
 (iter k (zng k) ((0:Int),a0,a1,v0,())).bind fun (v66,_)=>
 some (v66,())
theorem zoQ (k:Nat):HOk (S:=SyS) prog 51 zlq zbl (G51 k):=HOk.mk (k:=k) [.h ⟨[],⟨[(0,.b (.whole 3))],[(3,.row 1 (.own .bool))],4,false⟩⟩,.l ⟨[(0,.b (.whole 1)),(1,.b (.whole 2)),(5,.b (.whole 3)),e 6 (.int .i64)],[(1,.row 1 (.own .bool)),(2,.row 1 (.own .bool)),(3,.row 1 (.own .bool))],4,false⟩ [(.exit 0,⟨[(5,.b (.whole 1))],[(1,.row 1 (.own .bool))],2,false⟩)],.l ⟨[(0,.b (.whole 1)),(1,.b (.whole 2)),(5,.b (.whole 3)),e 6 (.int .i64),e 7 (.int .i64)],[(1,.row 1 (.own .bool)),(2,.row 1 (.own .bool)),(3,.row 1 (.own .bool))],4,false⟩ [(.exit 2,⟨[(0,.b (.whole 1)),(1,.b (.whole 2)),(5,.b (.whole 3)),e 6 (.int .i64)],[(1,.row 1 (.own .bool)),(2,.row 1 (.own .bool)),(3,.row 1 (.own .bool))],4,false⟩)],.l ⟨[(0,.b (.whole 1)),(1,.b (.whole 2)),(5,.b (.whole 3)),e 6 (.int .i64),e 7 (.int .i64),e 8 (.int .i64)],[(1,.row 1 (.own .bool)),(2,.row 1 (.own .bool)),(3,.row 1 (.own .bool))],4,false⟩ [(.exit 4,⟨[(0,.b (.whole 1)),(1,.b (.whole 2)),(5,.b (.whole 3)),e 6 (.int .i64),e 7 (.int .i64)],[(1,.row 1 (.own .bool)),(2,.row 1 (.own .bool)),(3,.row 1 (.own .bool))],4,false⟩)],.c 56 [(.normal,⟨[(0,.b (.whole 1)),(1,.b (.whole 2)),(5,.b (.whole 3)),e 6 (.int .i64),e 7 (.int .i64),e 8 (.int .i64),e 38 .bool],[(1,.row 1 (.own .bool)),(2,.row 1 (.own .bool)),(3,.row 1 (.own .bool))],4,false⟩)],.c 74 [(.normal,⟨[(0,.b (.whole 1)),(1,.b (.whole 2)),(5,.b (.whole 3)),e 6 (.int .i64),e 7 (.int .i64),e 8 (.int .i64)],[(1,.row 1 (.own .bool)),(2,.row 1 (.own .bool)),(3,.row 1 (.own .bool))],4,false⟩)]] [enH (ziE k)] (by kernel_rfl) (by kernel_rfl) fun _=>by kernel_rfl
abbrev E29:=(RxT×(List Int)×Unit)→(Option ((List (List Bool))×Unit))
def znW (k:Nat):LB ((List Int)×Int×Int×RxT×(List (List Bool))×Unit) ((List (List Bool))×Unit):=fun (v1,v2,v3,v4,v5,_)=>
 (bif decide ((w64 (v3+(1:Int)))<v2) then
  (at? v5 v3).bind fun v6=>
  (List.get?Internal v5 (Int.toNat v3)).bind fun v7=>
  (at? v1 v3).bind fun v8=>
  (G18 k ((RxT.s v4),v8,())).bind fun (v9,_)=>
  (List.get?Internal v5 (Int.toNat v3)).bind fun v10=>
  (at? v10 (w64 (v3+(1:Int)))).bind fun v11=>
  (List.get?Internal v5 (Int.toNat v3)).bind fun v12=>
  (List.get?Internal v12 (Int.toNat (w64 (v3+(1:Int))))).bind fun v13=>
  some (.inl (v1,v2,(w64 (v3+(1:Int))),v4,(List.set v5 (Int.toNat v3) (List.set v12 (Int.toNat (w64 (v3+(1:Int)))) v9)),()))
 else
  some (.inr (v5,())))
def znT (k:Nat):LB ((List Int)×Int×Int×Int×Int×RxT×(List (List Bool))×(List (List Bool))×Unit) ((List Int)×Int×Int×Int×RxT×(List (List Bool))×(List (List Bool))×Unit):=fun (v29,v30,v31,v32,v33,v34,v35,v36,_)=>
 (bif decide (v33<v30) then
  ((at? v35 v32).bind fun v37=>
   (List.get?Internal v35 (Int.toNat v32)).bind fun v38=>
   (at? v35 v32).bind fun v39=>
   (List.get?Internal v35 (Int.toNat v32)).bind fun v40=>
   (List.get?Internal v35 (Int.toNat v32)).bind fun v41=>
   (at? v41 v33).bind fun v42=>
   (List.get?Internal v35 (Int.toNat v32)).bind fun v43=>
   (List.get?Internal v43 (Int.toNat v33)).bind fun v44=>
   (bif v44 then
    (List.get?Internal v35 (Int.toNat v32)).bind fun v45=>
    (at? v45 v33).bind fun v46=>
    (List.get?Internal v35 (Int.toNat v32)).bind fun v47=>
    (List.get?Internal v47 (Int.toNat v33)).bind fun v48=>
    some (v29,v30,v31,v32,v33,v34,(List.set v35 (Int.toNat v32) (List.set v47 (Int.toNat v33) true)),v36,())
   else
    (at? v36 v32).bind fun v49=>
    (List.get?Internal v36 (Int.toNat v32)).bind fun v50=>
    (List.get?Internal v36 (Int.toNat v32)).bind fun v51=>
    (at? v51 v33).bind fun v52=>
    (List.get?Internal v36 (Int.toNat v32)).bind fun v53=>
    (List.get?Internal v53 (Int.toNat v33)).bind fun v54=>
    (List.get?Internal v35 (Int.toNat v32)).bind fun v55=>
    (at? v55 v33).bind fun v56=>
    (List.get?Internal v35 (Int.toNat v32)).bind fun v57=>
    (List.get?Internal v57 (Int.toNat v33)).bind fun v58=>
    some (v29,v30,v31,v32,v33,v34,(List.set v35 (Int.toNat v32) (List.set v57 (Int.toNat v33) v54)),v36,()))).bind fun (v59,v60,v61,v62,v63,v64,v65,v66,_)=>
  some (.inl (v59,v60,v61,v62,(w64 (v63+(1:Int))),v64,v65,v66,()))
 else
  some (.inr (v29,v30,v31,v32,v34,v35,v36,())))
def znU (k:Nat):LB ((List Int)×Int×Int×Int×RxT×(List (List Bool))×(List (List Bool))×Unit) ((List Int)×Int×Int×RxT×(List (List Bool))×Unit):=fun (v22,v23,v24,v25,v26,v27,v28,_)=>
 (bif decide (v25<v23) then
  (iter k (znT k) (v22,v23,v24,v25,v25,v26,v27,v28,())).bind fun (v67,v68,v69,v70,v71,v72,v73,_)=>
  some (.inl (v67,v68,v69,(w64 (v70+(1:Int))),v71,v72,v73,()))
 else
  some (.inr (v22,v23,v24,v26,v27,())))
def znV (k:Nat)(e:E29):LB ((List Int)×Int×Int×RxT×(List (List Bool))×Unit) ((List (List Bool))×Unit):=fun (v15,v16,v17,v18,v19,_)=>
 (bif decide (v17<((RxT.a v18).length:Int)) then
  (at? (RxT.a v18) v17).bind fun v20=>
  (e (v20,v15,())).bind fun (v21,_)=>
  (iter k (znU k) (v15,v16,v17,(0:Int),v18,v19,v21,())).bind fun (v74,v75,v76,v77,v78,_)=>
  some (.inl (v74,v75,(w64 (v76+(1:Int))),v77,v78,()))
 else
  some (.inr (v19,())))
def znS (k:Nat)(e:E29):LB ((List Int)×Int×RxT×(List (List Bool))×Unit) ((List (List Bool))×Unit):=fun (v81,v82,v83,v84,_)=>
 (bif decide (v82<((RxT.a v83).length:Int)) then
  (at? (RxT.a v83) v82).bind fun v85=>
  (e (v85,v81,())).bind fun (v86,_)=>
  (G51 k (v84,v86,())).bind fun (v87,_)=>
  some (.inl (v81,(w64 (v82+(1:Int))),v83,v87,()))
 else
  some (.inr (v84,())))
def znR (k:Nat):LB (Int×Int×(List (List Bool))×Unit) ((List (List Bool))×Unit):=fun (v99,v100,v101,_)=>
 (bif decide (v100<v99) then
  (at? v101 v100).bind fun v102=>
  (List.get?Internal v101 (Int.toNat v100)).bind fun v103=>
  (List.get?Internal v101 (Int.toNat v100)).bind fun v104=>
  (at? v104 v100).bind fun v105=>
  (List.get?Internal v101 (Int.toNat v100)).bind fun v106=>
  (List.get?Internal v106 (Int.toNat v100)).bind fun v107=>
  some (.inl (v99,(w64 (v100+(1:Int))),(List.set v101 (Int.toNat v100) (List.set v106 (Int.toNat v100) true)),()))
 else
  some (.inr (v101,())))
def znO (k:Nat):LB (Int×Int×Int×Int×RxT×(List (List Bool))×(List (List Bool))×Unit) (Int×Int×Int×RxT×(List (List Bool))×(List (List Bool))×Unit):=fun (v121,v122,v123,v124,v125,v126,v127,_)=>
 ((bif decide (v124<v121) then
   (at? v126 v122).bind fun v128=>
   (List.get?Internal v126 (Int.toNat v122)).bind fun v129=>
   (List.get?Internal v126 (Int.toNat v122)).bind fun v130=>
   (at? v130 v123).bind fun v131=>
   (List.get?Internal v126 (Int.toNat v122)).bind fun v132=>
   (List.get?Internal v132 (Int.toNat v123)).bind fun v133=>
   some (v121,v122,v123,v124,v133,v125,v126,v127,())
  else
   some (v121,v122,v123,v124,false,v125,v126,v127,()))).bind fun (v134,v135,v136,v137,v138,v139,v140,v141,_)=>
 (bif v138 then
  ((at? v140 v135).bind fun v142=>
   (List.get?Internal v140 (Int.toNat v135)).bind fun v143=>
   (at? v140 v135).bind fun v144=>
   (List.get?Internal v140 (Int.toNat v135)).bind fun v145=>
   (List.get?Internal v140 (Int.toNat v135)).bind fun v146=>
   (at? v146 v137).bind fun v147=>
   (List.get?Internal v140 (Int.toNat v135)).bind fun v148=>
   (List.get?Internal v148 (Int.toNat v137)).bind fun v149=>
   (bif v149 then
    (List.get?Internal v140 (Int.toNat v135)).bind fun v150=>
    (at? v150 v137).bind fun v151=>
    (List.get?Internal v140 (Int.toNat v135)).bind fun v152=>
    (List.get?Internal v152 (Int.toNat v137)).bind fun v153=>
    some (v134,v135,v136,v137,v139,(List.set v140 (Int.toNat v135) (List.set v152 (Int.toNat v137) true)),v141,())
   else
    (at? v141 v136).bind fun v154=>
    (List.get?Internal v141 (Int.toNat v136)).bind fun v155=>
    (List.get?Internal v141 (Int.toNat v136)).bind fun v156=>
    (at? v156 v137).bind fun v157=>
    (List.get?Internal v141 (Int.toNat v136)).bind fun v158=>
    (List.get?Internal v158 (Int.toNat v137)).bind fun v159=>
    (List.get?Internal v140 (Int.toNat v135)).bind fun v160=>
    (at? v160 v137).bind fun v161=>
    (List.get?Internal v140 (Int.toNat v135)).bind fun v162=>
    (List.get?Internal v162 (Int.toNat v137)).bind fun v163=>
    some (v134,v135,v136,v137,v139,(List.set v140 (Int.toNat v135) (List.set v162 (Int.toNat v137) v159)),v141,()))).bind fun (v164,v165,v166,v167,v168,v169,v170,_)=>
  some (.inl (v164,v165,v166,(w64 (v167+(1:Int))),v168,v169,v170,()))
 else
  some (.inr (v134,v135,v136,v139,v140,v141,())))
def znP (k:Nat):LB (Int×Int×Int×RxT×(List (List Bool))×(List (List Bool))×Unit) (Int×Int×RxT×(List (List Bool))×(List (List Bool))×Unit):=fun (v115,v116,v117,v118,v119,v120,_)=>
 (bif decide (v117<v115) then
  (iter k (znO k) (v115,v116,v117,(w64 (v117+(1:Int))),v118,v119,v120,())).bind fun (v171,v172,v173,v174,v175,v176,_)=>
  some (.inl (v171,v172,(w64 (v173+(1:Int))),v174,v175,v176,()))
 else
  some (.inr (v115,v116,v118,v119,v120,())))
def znQ (k:Nat):LB (Int×Int×RxT×(List (List Bool))×(List (List Bool))×Unit) (RxT×(List (List Bool))×(List (List Bool))×Unit):=fun (v110,v111,v112,v113,v114,_)=>
 (bif decide (v111<v110) then
  (iter k (znP k) (v110,v111,v111,v112,v113,v114,())).bind fun (v177,v178,v179,v180,v181,_)=>
  some (.inl (v177,(w64 (v178+(1:Int))),v179,v180,v181,()))
 else
  some (.inr (v112,v113,v114,())))
def zll (k:Nat)(e:E29):RxT×List Int×Unit→(Option ((List (List Bool))×Unit)):=fun (a0,a1,_)=>
 (G49 k ((w64 ((a1.length:Int)+(1:Int))),())).bind fun (v0,_)=>
 ((bif ((RxT.k a0)==(1:Int)) then
   (iter k (znW k) (a1,(w64 ((a1.length:Int)+(1:Int))),(0:Int),a0,v0,())).bind fun (v14,_)=>
   some (.inl (v14,()))
  else
   ((bif ((RxT.k a0)==(3:Int)) then
     (iter k (znV k e) (a1,(w64 ((a1.length:Int)+(1:Int))),(0:Int),a0,v0,())).bind fun (v79,_)=>
     some (.inl (v79,()))
    else
     (bif ((RxT.k a0)==(2:Int)) then
      (G50 k ((w64 ((a1.length:Int)+(1:Int))),())).bind fun (v80,_)=>
      (iter k (znS k e) (a1,(0:Int),a0,v80,())).bind fun (v88,_)=>
      some (.inl (v88,()))
     else
      some (.inr (a1,(w64 ((a1.length:Int)+(1:Int))),a0,())))):Option (((List (List Bool))×Unit) ⊕ ((List Int)×Int×RxT×Unit))).bind fun
   | .inl (v89,_)=>some (.inl (v89,()))
   | .inr (v90,v91,v92,_)=>some (.inr (v90,v91,v92,()))):Option (((List (List Bool))×Unit) ⊕ ((List Int)×Int×RxT×Unit))).bind fun
 | .inl (v93,_)=>some (v93,())
 | .inr (v94,v95,v96,_)=>(at? (RxT.a v96) (0:Int)).bind fun v97=>
  (e (v97,v94,())).bind fun (v98,_)=>
  (bif ((RxT.k v96)==(6:Int)) then
   (iter k (znR k) (v95,(0:Int),v98,())).bind fun (v108,_)=>
   some (v108,())
  else
   (G50 k (v95,())).bind fun (v109,_)=>
   (iter k (znQ k) (v95,(0:Int),v96,v109,v98,())).bind fun (v182,v183,v184,_)=>
   (bif ((RxT.k v182)==(5:Int)) then
    (G51 k (v184,v183,())).bind fun (v185,_)=>
    some (v185,())
   else
    some (v183,())))
theorem zlP (k:Nat)(e1:E29)(h1:HOk (S:=SyS) prog 29 zch zbl e1):HOk (S:=SyS) prog 29 zch zbl (zll k e1):=HOk.mk (k:=k) [.h ⟨[],⟨[(0,.b (.whole 2))],[(2,.row 1 (.own .bool))],3,false⟩⟩,.c 30 [(.ret,⟨[(4,.b (.whole 1))],[(1,.row 1 (.own .bool))],2,false⟩),(.normal,⟨[e 1 (.list (.int .u8)),p 2 1,e 5 (.int .i64)],[(1,.box none [.one 1 (.st 0)])],2,false⟩)],.l ⟨[e 1 (.list (.int .u8)),p 2 1,e 5 (.int .i64),(6,.b (.whole 2)),e 7 (.int .i64)],[(1,.box none [.one 1 (.st 0)]),(2,.row 1 (.own .bool))],3,false⟩ [(.exit 1,⟨[(6,.b (.whole 1))],[(1,.row 1 (.own .bool))],2,false⟩)],.c 81 [(.ret,⟨[(4,.b (.whole 1))],[(1,.row 1 (.own .bool))],2,false⟩),(.normal,⟨[e 1 (.list (.int .u8)),p 2 1,e 5 (.int .i64)],[(1,.box none [.one 1 (.st 0)])],2,false⟩)],.l ⟨[e 1 (.list (.int .u8)),p 2 1,e 5 (.int .i64),(6,.b (.whole 2)),e 8 (.int .i64)],[(1,.box none [.one 1 (.st 0)]),(2,.row 1 (.own .bool))],3,false⟩ [(.exit 3,⟨[(6,.b (.whole 1))],[(1,.row 1 (.own .bool))],2,false⟩)],.h ⟨[],⟨[(0,.b (.whole 3))],[(3,.row 1 (.own .bool))],4,false⟩⟩,.l ⟨[e 1 (.list (.int .u8)),p 2 1,e 5 (.int .i64),(6,.b (.whole 2)),e 8 (.int .i64),(9,.b (.whole 3)),e 10 (.int .i64)],[(1,.box none [.one 1 (.st 0)]),(2,.row 1 (.own .bool)),(3,.row 1 (.own .bool))],4,false⟩ [(.exit 5,⟨[e 1 (.list (.int .u8)),p 2 1,e 5 (.int .i64),(6,.b (.whole 2)),e 8 (.int .i64)],[(1,.box none [.one 1 (.st 0)]),(2,.row 1 (.own .bool))],3,false⟩)],.l ⟨[e 1 (.list (.int .u8)),p 2 1,e 5 (.int .i64),(6,.b (.whole 2)),e 8 (.int .i64),(9,.b (.whole 3)),e 10 (.int .i64),e 11 (.int .i64)],[(1,.box none [.one 1 (.st 0)]),(2,.row 1 (.own .bool)),(3,.row 1 (.own .bool))],4,false⟩ [(.exit 7,⟨[e 1 (.list (.int .u8)),p 2 1,e 5 (.int .i64),(6,.b (.whole 2)),e 8 (.int .i64),(9,.b (.whole 3)),e 10 (.int .i64)],[(1,.box none [.one 1 (.st 0)]),(2,.row 1 (.own .bool)),(3,.row 1 (.own .bool))],4,false⟩)],.c 145 [(.normal,⟨[e 1 (.list (.int .u8)),p 2 1,e 5 (.int .i64),(6,.b (.whole 2)),e 8 (.int .i64),(9,.b (.whole 3)),e 10 (.int .i64),e 11 (.int .i64)],[(1,.box none [.one 1 (.st 0)]),(2,.row 1 (.own .bool)),(3,.row 1 (.own .bool))],4,false⟩)],.h ⟨[],⟨[(0,.b (.whole 3))],[(3,.row 1 (.own .bool))],4,false⟩⟩,.l ⟨[e 1 (.list (.int .u8)),p 2 1,(6,.b (.whole 2)),e 12 (.int .i64)],[(1,.box none [.one 1 (.st 0)]),(2,.row 1 (.own .bool))],3,false⟩ [(.exit 9,⟨[(6,.b (.whole 1))],[(1,.row 1 (.own .bool))],2,false⟩)],.h ⟨[],⟨[(0,.b (.whole 3))],[(3,.row 1 (.own .bool))],4,false⟩⟩,.h ⟨[(2,none),(3,none)],⟨[(0,.b (.whole 4))],[(4,.row 1 (.own .bool))],5,false⟩⟩,.h ⟨[],⟨[(0,.b (.whole 2))],[(2,.row 1 (.own .bool))],3,false⟩⟩,.l ⟨[e 5 (.int .i64),(13,.b (.whole 1)),e 14 (.int .i64)],[(1,.row 1 (.own .bool))],2,false⟩ [(.exit 11,⟨[(13,.b (.whole 1))],[(1,.row 1 (.own .bool))],2,false⟩)],.h ⟨[],⟨[(0,.b (.whole 3))],[(3,.row 1 (.own .bool))],4,false⟩⟩,.l ⟨[p 2 1,e 5 (.int .i64),(6,.b (.whole 2)),(13,.b (.whole 3)),e 15 (.int .i64)],[(1,.box none [.one 1 (.st 0)]),(2,.row 1 (.own .bool)),(3,.row 1 (.own .bool))],4,false⟩ [(.exit 13,⟨[p 2 1,(6,.b (.whole 2)),(13,.b (.whole 3))],[(1,.box none [.one 1 (.st 0)]),(2,.row 1 (.own .bool)),(3,.row 1 (.own .bool))],4,false⟩)],.l ⟨[p 2 1,e 5 (.int .i64),(6,.b (.whole 2)),(13,.b (.whole 3)),e 15 (.int .i64),e 16 (.int .i64)],[(1,.box none [.one 1 (.st 0)]),(2,.row 1 (.own .bool)),(3,.row 1 (.own .bool))],4,false⟩ [(.exit 15,⟨[p 2 1,e 5 (.int .i64),(6,.b (.whole 2)),(13,.b (.whole 3)),e 15 (.int .i64)],[(1,.box none [.one 1 (.st 0)]),(2,.row 1 (.own .bool)),(3,.row 1 (.own .bool))],4,false⟩)],.l ⟨[p 2 1,e 5 (.int .i64),(6,.b (.whole 2)),(13,.b (.whole 3)),e 15 (.int .i64),e 16 (.int .i64),e 17 (.int .i64)],[(1,.box none [.one 1 (.st 0)]),(2,.row 1 (.own .bool)),(3,.row 1 (.own .bool))],4,false⟩ [(.exit 17,⟨[p 2 1,e 5 (.int .i64),(6,.b (.whole 2)),(13,.b (.whole 3)),e 15 (.int .i64),e 16 (.int .i64)],[(1,.box none [.one 1 (.st 0)]),(2,.row 1 (.own .bool)),(3,.row 1 (.own .bool))],4,false⟩)],.c 347 [(.normal,⟨[p 2 1,e 5 (.int .i64),(6,.b (.whole 2)),(13,.b (.whole 3)),e 15 (.int .i64),e 16 (.int .i64),e 17 (.int .i64),e 166 .bool],[(1,.box none [.one 1 (.st 0)]),(2,.row 1 (.own .bool)),(3,.row 1 (.own .bool))],4,false⟩)],.c 364 [(.normal,⟨[p 2 1,e 5 (.int .i64),(6,.b (.whole 2)),(13,.b (.whole 3)),e 15 (.int .i64),e 16 (.int .i64),e 17 (.int .i64)],[(1,.box none [.one 1 (.st 0)]),(2,.row 1 (.own .bool)),(3,.row 1 (.own .bool))],4,false⟩)],.h ⟨[(3,none),(2,none)],⟨[(0,.b (.whole 4))],[(4,.row 1 (.own .bool))],5,false⟩⟩] [enH (ziE k),enP (zeq k),enH h1,enH (zoR k),enH (zoQ k)] (by kernel_rfl) (by kernel_rfl) fun _=>by kernel_rfl
def P29 (k:Nat):Nat→ {e:E29 // HOk (S:=SyS) prog 29 zch zbl e}
 | 0=>⟨fun _=>none,fun _ _ h=>nomatch h⟩
 | d+1=>⟨zll k (P29 k d).1,zlP k _ (P29 k d).2⟩
def G29 (k:Nat):E29:=(P29 k k).1
theorem zo5 (k:Nat):HOk (S:=SyS) prog 29 zch zbl (G29 k):=(P29 k k).2
def G22 (k:Nat):RxT×(List Int)×Unit→(Option (Bool×Unit)):=fun (a0,a1,_)=>
 (G29 k (a0,a1,())).bind fun (v0,_)=>
 (at? v0 (0:Int)).bind fun v1=>
 (List.get?Internal v0 (Int.toNat (0:Int))).bind fun v2=>
 (List.get?Internal v0 (Int.toNat (0:Int))).bind fun v3=>
 (at? v3 (a1.length:Int)).bind fun v4=>
 (List.get?Internal v0 (Int.toNat (0:Int))).bind fun v5=>
 (List.get?Internal v5 (Int.toNat (a1.length:Int))).bind fun v6=>
 some (v6,())
theorem zpa (k:Nat):FOk (S:=SyS) prog 22 [.val (.st 0),.val (.list (.int .u8))] [.val .bool] (G22 k):=FOk.mk (k:=k) [.h ⟨[],⟨[(0,.b (.whole 2))],[(2,.row 1 (.own .bool))],3,false⟩⟩] [enH (zo5 k)] (by kernel_rfl) fun _=>by kernel_rfl
def G15 (k:Nat):RxT×Unit→(Option (Bool×Unit)):=fun (a0,_)=>
 (G22 k (a0,([]:List Int),())).bind fun (v0,_)=>
 some (v0,())
theorem zpd (k:Nat):FOk (S:=SyS) prog 15 [.val (.st 0)] [.val .bool] (G15 k):=FOk.mk (k:=k) [] [enP (zpa k)] (by kernel_rfl) fun _=>by kernel_rfl
def G57 (k:Nat):GrT×Int×Unit→(Option (Bool×Unit)):=fun (a0,a1,_)=>
 (at? a0.1 a1).bind fun v0=>
 (G36 k (v0.2.1,())).bind fun (v1,v2,_)=>
 ((G32 k (v0.1,())).bind fun (v3,_)=>
  (bif v3 then
   (G58 k (a0,v0.1,())).bind fun (v4,_)=>
   (bif (v4==a1) then
    (bif (v2==(0:Int)) then
     (G15 k (v0.2.1,())).bind fun (v5,_)=>
     some ((!v5),())
    else
     some (false,()))
   else
    some (false,()))
  else
   some (false,()))).bind fun (v6,_)=>
 some (v6,())
theorem zoK (k:Nat):FOk (S:=SyS) prog 57 [.val (.st 4),.val (.int .i64)] [.val .bool] (G57 k):=FOk.mk (k:=k) [.c 28 [(.normal,⟨[e 4 .bool],[],1,false⟩)]] [enP (ziG k),enP (zdl k),enP (ziD k),enP (zpd k)] (by kernel_rfl) fun _=>by kernel_rfl
def G59 (k:Nat):GrT×(List UInt8)×Unit→(Option (Int×Unit)):=fun (a0,a1,_)=>
 (G33 k (a0.2.1,a1,())).bind fun (v0,_)=>
 some (v0,())
theorem zoJ (k:Nat):FOk (S:=SyS) prog 59 [.val (.st 4),.val (.str)] [.val (.int .i64)] (G59 k):=FOk.mk (k:=k) [] [enP (zep k)] (by kernel_rfl) fun _=>by kernel_rfl
def zm6 (k:Nat):LB (Int×GrT×RuT×Unit) (Unit ⊕ (Bool×Unit)):=fun (v3,v4,v5,_)=>
 (bif decide (v3<(v5.2.1.length:Int)) then
  (at? v5.2.1 v3).bind fun v6=>
  ((bif decide (v6≥(v4.2.1.length:Int)) then
    some (v3,true,v4,v5,())
   else
    (bif decide (v6<(0:Int)) then
     (bif decide ((w64 ((0:Int)-(w64 (v6+(1:Int)))))≥(v4.1.length:Int)) then
      some (v3,true,v4,v5,())
     else
      (at? v4.1 (w64 ((0:Int)-(w64 (v6+(1:Int)))))).bind fun v7=>
      some (v3,v7.2.2.1,v4,v5,()))
    else
     some (v3,false,v4,v5,())))).bind fun (v8,v9,v10,v11,_)=>
  (bif v9 then
   some (.inr (.inr (false,())))
  else
   some (.inl ((w64 (v8+(1:Int))),v10,v11,())))
 else
  some (.inr (.inl ())))
def G62 (k:Nat):GrT×RuT×Unit→(Option (Bool×Unit)):=fun (a0,a1,_)=>
 ((bif decide (a1.1<(0:Int)) then
   some (true,a0,a1,())
  else
   (bif decide (a1.1≥(a0.2.1.length:Int)) then
    some (true,a0,a1,())
   else
    (bif decide ((a1.2.1.length:Int)>(6:Int)) then
     some (true,a0,a1,())
    else
     (bif decide (a1.2.2.1<(-(1:Int))) then
      some (true,a0,a1,())
     else
      some (decide (a1.2.2.1≥(a0.2.2.1.length:Int)),a0,a1,())))))).bind fun (v0,v1,v2,_)=>
 (bif v0 then
  some (false,())
 else
  (iter k (zm6 k) ((0:Int),v1,v2,())).bind fun
  | .inl _=>some (true,())
  | .inr (v12,_)=>some (v12,()))
theorem zoI (k:Nat):FOk (S:=SyS) prog 62 [.val (.st 4),.val (.st 3)] [.val .bool] (G62 k):=FOk.mk (k:=k) [.c 8 [(.normal,⟨[p 2 1,p 3 2,e 36 .bool],[(1,.box none [.one 1 (.st 4)]),(2,.box none [.one 1 (.st 3)])],3,false⟩)],.l ⟨[p 2 1,p 3 2,e 5 (.int .i64)],[(1,.box none [.one 1 (.st 4)]),(2,.box none [.one 1 (.st 3)])],3,false⟩ [(.exit 0,⟨[],[],1,false⟩),(.ret,⟨[e 4 .bool],[],1,false⟩)],.c 74 [(.normal,⟨[p 2 1,p 3 2,e 5 (.int .i64),e 76 .bool],[(1,.box none [.one 1 (.st 4)]),(2,.box none [.one 1 (.st 3)])],3,false⟩)]] [] (by kernel_rfl) fun _=>by kernel_rfl
def znI (k:Nat):LB (Int×GrT×Unit) ((GrT×Unit) ⊕ zI):=fun (v2,v3,_)=>
 (bif decide (v2<(v3.1.length:Int)) then
  (G57 k (v3,v2,())).bind fun (v4,_)=>
  (bif (!v4) then
   some (.inr (.inr (v2,(5:Int),())))
  else
   some (.inl ((w64 (v2+(1:Int))),v3,())))
 else
  some (.inr (.inl (v3,()))))
def znH (k:Nat):LB (Int×GrT×Unit) ((GrT×Unit) ⊕ zI):=fun (v6,v7,_)=>
 (bif decide (v6<(v7.2.1.length:Int)) then
  ((at? v7.2.1 v6).bind fun v8=>
   (G32 k (v8,())).bind fun (v9,_)=>
   (bif (!v9) then
    some (v6,true,v7,())
   else
    (at? v7.2.1 v6).bind fun v10=>
    (G58 k (v7,v10,())).bind fun (v11,_)=>
    (bif decide (v11≥(0:Int)) then
     some (v6,true,v7,())
    else
     (at? v7.2.1 v6).bind fun v12=>
     (G59 k (v7,v12,())).bind fun (v13,_)=>
     some (v6,(v13 != v6),v7,())))).bind fun (v14,v15,v16,_)=>
  (bif v15 then
   some (.inr (.inr (v14,(5:Int),())))
  else
   some (.inl ((w64 (v14+(1:Int))),v16,())))
 else
  some (.inr (.inl (v7,()))))
def znG (k:Nat):LB (Int×GrT×Unit) ((GrT×Unit) ⊕ zI):=fun (v18,v19,_)=>
 (bif decide (v18<(v19.2.2.1.length:Int)) then
  (at? v19.2.2.1 v18).bind fun v20=>
  (G60 k (v20.2.1,())).bind fun (v21,v22,_)=>
  ((at? v19.2.2.1 v18).bind fun v23=>
   (G32 k (v23.1,())).bind fun (v24,_)=>
   (bif (!v24) then
    some (v18,true,v19,())
   else
    (at? v19.2.2.1 v18).bind fun v25=>
    (G61 k (v19,v25.1,())).bind fun (v26,_)=>
    (bif (v26 != v18) then
     some (v18,true,v19,())
    else
     some (v18,(v22 != (0:Int)),v19,())))).bind fun (v27,v28,v29,_)=>
  (bif v28 then
   some (.inr (.inr (v27,(5:Int),())))
  else
   some (.inl ((w64 (v27+(1:Int))),v29,())))
 else
  some (.inr (.inl (v19,()))))
def znF (k:Nat):LB (Int×GrT×Unit) ((GrT×Unit) ⊕ zI):=fun (v31,v32,_)=>
 (bif decide (v31<(v32.2.2.2.1.length:Int)) then
  (at? v32.2.2.2.1 v31).bind fun v33=>
  (G62 k (v32,v33,())).bind fun (v34,_)=>
  (bif (!v34) then
   some (.inr (.inr (v31,(5:Int),())))
  else
   some (.inl ((w64 (v31+(1:Int))),v32,())))
 else
  some (.inr (.inl (v32,()))))
def znD (k:Nat):LB (Int×Bool×Int×GrT×Unit) (Int×Bool×GrT×Unit):=fun (v38,v39,v40,v41,_)=>
 (bif decide (v40<(v41.2.2.2.1.length:Int)) then
  ((bif v39 then
    some (v38,true,v40,v41,())
   else
    (at? v41.2.2.2.1 v40).bind fun v42=>
    some (v38,(v42.1==v38),v40,v41,()))).bind fun (v43,v44,v45,v46,_)=>
  some (.inl (v43,v44,(w64 (v45+(1:Int))),v46,()))
 else
  some (.inr (v38,v39,v41,())))
def znE (k:Nat):LB (Int×GrT×Unit) ((GrT×Unit) ⊕ zI):=fun (v36,v37,_)=>
 (bif decide (v36<(v37.2.1.length:Int)) then
  (iter k (znD k) (v36,false,(0:Int),v37,())).bind fun (v47,v48,v49,_)=>
  (bif (!v48) then
   some (.inr (.inr (v47,(5:Int),())))
  else
   some (.inl ((w64 (v47+(1:Int))),v49,())))
 else
  some (.inr (.inl (v37,()))))
def znC (k:Nat):LB (Int×GrT×(List zh)×Unit) ((GrT×Unit) ⊕ zI):=fun (v55,v56,v57,_)=>
 (bif decide (v55<(v57.length:Int)) then
  (at? v57 v55).bind fun v58=>
  (List.get?Internal v57 (Int.toNat v55)).bind fun v59=>
  (G63 k (v59,())).bind fun (v60,_)=>
  (bif v60 then
   some (.inr (.inr (v55,(5:Int),())))
  else
   some (.inl ((w64 (v55+(1:Int))),v56,v57,())))
 else
  some (.inr (.inl (v56,()))))
def znB (k:Nat):LB (Bool×Int×GrT×Unit) (Bool×GrT×Unit):=fun (v62,v63,v64,_)=>
 (bif decide (v63<(v64.1.length:Int)) then
  ((bif v62 then
    (at? v64.1 v63).bind fun v65=>
    some (v65.2.2.1,v63,v64,())
   else
    some (false,v63,v64,()))).bind fun (v66,v67,v68,_)=>
  some (.inl (v66,(w64 (v67+(1:Int))),v68,()))
 else
  some (.inr (v62,v64,())))
def G35 (k:Nat):GrT×Unit→(Option zI):=fun (a0,_)=>
 ((bif decide ((a0.1.length:Int)<(1:Int)) then
   some (true,a0,())
  else
   (bif decide ((a0.2.1.length:Int)<(1:Int)) then
    some (true,a0,())
   else
    (bif decide ((a0.2.2.2.1.length:Int)<(1:Int)) then
     some (true,a0,())
    else
     (bif decide ((a0.1.length:Int)>(10:Int)) then
      some (true,a0,())
     else
      (bif decide ((a0.2.1.length:Int)>(12:Int)) then
       some (true,a0,())
      else
       (bif decide ((a0.2.2.1.length:Int)>(6:Int)) then
        some (true,a0,())
       else
        some (decide ((a0.2.2.2.1.length:Int)>(24:Int)),a0,())))))))).bind fun (v0,v1,_)=>
 (bif v0 then
  some ((0:Int),(5:Int),())
 else
  (iter k (znI k) ((0:Int),v1,())).bind fun
  | .inl (v5,_)=>(iter k (znH k) ((0:Int),v5,())).bind fun
   | .inl (v17,_)=>(iter k (znG k) ((0:Int),v17,())).bind fun
    | .inl (v30,_)=>(iter k (znF k) ((0:Int),v30,())).bind fun
     | .inl (v35,_)=>(iter k (znE k) ((0:Int),v35,())).bind fun
      | .inl (v50,_)=>room ((List.length ([]:List zh))+(List.length v50.2.2.2.2.1)) 32 (room ((List.length (([]:List zh)++v50.2.2.2.2.1))+(List.length v50.2.2.2.2.2.1)) 32 (((at? v50.2.2.2.1 (0:Int)).bind fun v51=>
        (bif (v51.1 != (0:Int)) then
         some (true,v50,((([]:List zh)++v50.2.2.2.2.1)++v50.2.2.2.2.2.1),())
        else
         (bif ((((([]:List zh)++v50.2.2.2.2.1)++v50.2.2.2.2.2.1).length:Int)==(0:Int)) then
          some (true,v50,((([]:List zh)++v50.2.2.2.2.1)++v50.2.2.2.2.2.1),())
         else
          (bif decide ((v50.2.2.2.2.1.length:Int)>(3:Int)) then
           some (true,v50,((([]:List zh)++v50.2.2.2.2.1)++v50.2.2.2.2.2.1),())
          else
           some (decide ((v50.2.2.2.2.2.1.length:Int)>(3:Int)),v50,((([]:List zh)++v50.2.2.2.2.1)++v50.2.2.2.2.2.1),()))))).bind fun (v52,v53,v54,_)=>
       (bif v52 then
        some ((0:Int),(5:Int),())
       else
        (iter k (znC k) ((0:Int),v53,v54,())).bind fun
        | .inl (v61,_)=>(iter k (znB k) (true,(0:Int),v61,())).bind fun (v69,v70,_)=>
         ((bif decide (v70.2.2.2.2.2.2.1<(1:Int)) then
           some (true,())
          else
           (bif decide (v70.2.2.2.2.2.2.1>(60:Int)) then
            some (true,())
           else
            some (v69,())))).bind fun (v71,_)=>
         (bif v71 then
          some ((0:Int),(5:Int),())
         else
          some ((0:Int),(0:Int),()))
        | .inr v72=>some (v72.1,v72.2.1,()))))
      | .inr v73=>some (v73.1,v73.2.1,())
     | .inr v74=>some (v74.1,v74.2.1,())
    | .inr v75=>some (v75.1,v75.2.1,())
   | .inr v76=>some (v76.1,v76.2.1,())
  | .inr v77=>some (v77.1,v77.2.1,()))
theorem zo1 (k:Nat):FOk (S:=SyS) prog 35 [.val (.st 4)] [.val (.int .i64),.val (.int .i64)] (G35 k):=FOk.mk (k:=k) [.c 8 [(.normal,⟨[p 1 1,e 56 .bool],[(1,.box none [.one 1 (.st 4)])],2,false⟩)],.l ⟨[p 1 1,e 4 (.int .i64)],[(1,.box none [.one 1 (.st 4)])],2,false⟩ [(.exit 0,⟨[p 1 1],[(1,.box none [.one 1 (.st 4)])],2,false⟩),(.ret,⟨[e 2 (.int .i64),e 3 (.int .i64)],[],1,false⟩)],.l ⟨[p 1 1,e 5 (.int .i64)],[(1,.box none [.one 1 (.st 4)])],2,false⟩ [(.exit 2,⟨[p 1 1],[(1,.box none [.one 1 (.st 4)])],2,false⟩),(.ret,⟨[e 2 (.int .i64),e 3 (.int .i64)],[],1,false⟩)],.c 114 [(.normal,⟨[p 1 1,e 5 (.int .i64),e 103 .bool],[(1,.box none [.one 1 (.st 4)])],2,false⟩)],.l ⟨[p 1 1,e 6 (.int .i64)],[(1,.box none [.one 1 (.st 4)])],2,false⟩ [(.exit 4,⟨[p 1 1],[(1,.box none [.one 1 (.st 4)])],2,false⟩),(.ret,⟨[e 2 (.int .i64),e 3 (.int .i64)],[],1,false⟩)],.c 191 [(.normal,⟨[p 1 1,e 6 (.int .i64),e 145 .bool],[(1,.box none [.one 1 (.st 4)])],2,false⟩)],.l ⟨[p 1 1,e 9 (.int .i64)],[(1,.box none [.one 1 (.st 4)])],2,false⟩ [(.exit 6,⟨[p 1 1],[(1,.box none [.one 1 (.st 4)])],2,false⟩),(.ret,⟨[e 2 (.int .i64),e 3 (.int .i64)],[],1,false⟩)],.l ⟨[p 1 1,e 10 (.int .i64)],[(1,.box none [.one 1 (.st 4)])],2,false⟩ [(.exit 8,⟨[p 1 1],[(1,.box none [.one 1 (.st 4)])],2,false⟩),(.ret,⟨[e 2 (.int .i64),e 3 (.int .i64)],[],1,false⟩)],.l ⟨[p 1 1,e 10 (.int .i64),e 11 .bool,e 12 (.int .i64)],[(1,.box none [.one 1 (.st 4)])],2,false⟩ [(.exit 10,⟨[p 1 1,e 10 (.int .i64),e 11 .bool],[(1,.box none [.one 1 (.st 4)])],2,false⟩)],.c 313 [(.normal,⟨[p 1 1,e 10 (.int .i64),e 11 .bool,e 12 (.int .i64)],[(1,.box none [.one 1 (.st 4)])],2,false⟩)],.e 351 (.arr 4 .u64),.e 354 (.arr 4 .u64),.e 357 (.arr 4 .u64),.c 362 [(.normal,⟨[p 1 1,(13,.b (.whole 2)),e 220 .bool],[(1,.box none [.one 1 (.st 4)]),(2,.row 1 (.arr 4 .u64))],3,false⟩)],.l ⟨[p 1 1,(13,.b (.whole 2)),e 14 (.int .i64)],[(1,.box none [.one 1 (.st 4)]),(2,.row 1 (.arr 4 .u64))],3,false⟩ [(.exit 12,⟨[p 1 1],[(1,.box none [.one 1 (.st 4)])],2,false⟩),(.ret,⟨[e 2 (.int .i64),e 3 (.int .i64)],[],1,false⟩)],.l ⟨[p 1 1,e 15 .bool,e 16 (.int .i64)],[(1,.box none [.one 1 (.st 4)])],2,false⟩ [(.exit 14,⟨[p 1 1,e 15 .bool],[(1,.box none [.one 1 (.st 4)])],2,false⟩)],.c 454 [(.normal,⟨[p 1 1,e 15 .bool,e 16 (.int .i64)],[(1,.box none [.one 1 (.st 4)])],2,false⟩)],.c 473 [(.normal,⟨[e 259 .bool],[],1,false⟩)]] [enP (zoK k),enP (zdl k),enP (ziD k),enP (zoJ k),enP (zkU k),enP (zkT k),enP (zoI k),enP (zeo k)] (by kernel_rfl) fun _=>by kernel_rfl
def zn8 (k:Nat):LB (Bool×Int×Int×(List (List UInt8))×Int×Int×Bool×Bool×(List (List UInt8))×Unit) (Bool×Int×(List (List UInt8))×Int×Int×Bool×Bool×(List (List UInt8))×Unit):=fun (v2,v3,v4,v5,v6,v7,v8,v9,v10,_)=>
 (bif decide (v3<(v5.length:Int)) then
  (at? v5 v3).bind fun v11=>
  (List.get?Internal v5 (Int.toNat v3)).bind fun v12=>
  (G31 k (v12,())).bind fun (v13,_)=>
  ((bif decide ((v13.length:Int)≥(3:Int)) then
    (at? v13 (0:Int)).bind fun v14=>
    (List.get?Internal v13 (Int.toNat (0:Int))).bind fun v15=>
    (bif (v15==([114,117,108,101]:List UInt8)) then
     (at? v13 (2:Int)).bind fun v16=>
     (List.get?Internal v13 (Int.toNat (2:Int))).bind fun v17=>
     (bif (v17==([61]:List UInt8)) then
      (at? v13 (1:Int)).bind fun v18=>
      (List.get?Internal v13 (Int.toNat (1:Int))).bind fun v19=>
      (G32 k (v19,())).bind fun (v20,_)=>
      (bif v20 then
       (at? v13 (1:Int)).bind fun v21=>
       (List.get?Internal v13 (Int.toNat (1:Int))).bind fun v22=>
       (G33 k (v10,v22,())).bind fun (v23,_)=>
       some (v2,v3,decide (v23<(0:Int)),v4,v5,v6,v7,v8,v9,v10,v13,())
      else
       some (v2,v3,false,v4,v5,v6,v7,v8,v9,v10,v13,()))
     else
      some (v2,v3,false,v4,v5,v6,v7,v8,v9,v10,v13,()))
    else
     some (v2,v3,false,v4,v5,v6,v7,v8,v9,v10,v13,()))
   else
    some (v2,v3,false,v4,v5,v6,v7,v8,v9,v10,v13,()))).bind fun (v24,v25,v26,v27,v28,v29,v30,v31,v32,v33,v34,_)=>
  ((bif v26 then
    (at? v34 (1:Int)).bind fun v35=>
    (List.get?Internal v34 (Int.toNat (1:Int))).bind fun v36=>
    room ((List.length v33)+(List.length ([v36]:List (List UInt8)))) 16 (some (v24,v25,v27,v28,v29,v30,v31,v32,(v33++([v36]:List (List UInt8))),()))
   else
    some (v24,v25,v27,v28,v29,v30,v31,v32,v33,()))).bind fun (v37,v38,v39,v40,v41,v42,v43,v44,v45,_)=>
  some (.inl (v37,(w64 (v38+(1:Int))),v39,v40,v41,v42,v43,v44,v45,()))
 else
  some (.inr (v2,v4,v5,v6,v7,v8,v9,v10,())))
def zn7 (k:Nat):LB (Bool×Int×Int×(List (List UInt8))×Int×Int×Bool×Bool×(List yd)×(List ScT)×(List RuT)×(List zh)×(List zh)×(List (List UInt8))×Unit) ((Int×Int×Int×Bool×Bool×(List yd)×(List ScT)×(List RuT)×(List zh)×(List zh)×(List (List UInt8))×Unit) ⊕ za):=fun (v54,v55,v56,v57,v58,v59,v60,v61,v62,v63,v64,v65,v66,v67,_)=>
 (bif decide (v55<(v57.length:Int)) then
  ((bif (!v54) then
    (bif (v55==(w64 ((v57.length:Int)-(1:Int)))) then
     some (v54,v55,true,v56,v57,v58,v59,v60,v61,v62,v63,v64,v65,v66,v67,())
    else
     (at? v57 v55).bind fun v68=>
     (List.get?Internal v57 (Int.toNat v55)).bind fun v69=>
     (G31 k (v69,())).bind fun (v70,_)=>
     (G34 k (v70,v58,v59,v60,v61,v62,v63,v64,v65,v66,v67,())).bind fun (v71,v72,v73,v74,v75,v76,v77,v78,v79,v80,v81,_)=>
     some (v54,v55,(!v71),v56,v57,v72,v73,v74,v75,v76,v77,v78,v79,v80,v81,()))
   else
    (at? v57 v55).bind fun v82=>
    (List.get?Internal v57 (Int.toNat v55)).bind fun v83=>
    (G31 k (v83,())).bind fun (v84,_)=>
    (G34 k (v84,v58,v59,v60,v61,v62,v63,v64,v65,v66,v67,())).bind fun (v85,v86,v87,v88,v89,v90,v91,v92,v93,v94,v95,_)=>
    some (v54,v55,(!v85),v56,v57,v86,v87,v88,v89,v90,v91,v92,v93,v94,v95,()))).bind fun (v96,v97,v98,v99,v100,v101,v102,v103,v104,v105,v106,v107,v108,v109,v110,_)=>
  (bif v98 then
   some (.inr (.inr ((w64 (v97+(1:Int))),(5:Int),(0:Int),())))
  else
   some (.inl (v96,(w64 (v97+(1:Int))),v99,v100,v101,v102,v103,v104,v105,v106,v107,v108,v109,v110,())))
 else
  some (.inr (.inl (v56,v58,v59,v60,v61,v62,v63,v64,v65,v66,v67,()))))
def G24 (k:Nat):(List UInt8)×Unit→(Option (GrT×zI)):=fun (a0,_)=>
 (bif decide ((a0.length:Int)>(1500:Int)) then
  some ((([]:List yd),([]:List (List UInt8)),([]:List ScT),([]:List RuT),([]:List zh),([]:List zh),(0:Int),()),(0:Int),(5:Int),())
 else
  (G30 k (a0,())).bind fun (v0,v1,_)=>
  (iter k (zn8 k) (v1,(0:Int),(0:Int),v0,(0:Int),(0:Int),false,false,([]:List (List UInt8)),())).bind fun (v46,v47,v48,v49,v50,v51,v52,v53,_)=>
  (iter k (zn7 k) (v46,(0:Int),v47,v48,v49,v50,v51,v52,([]:List yd),([]:List ScT),([]:List RuT),([]:List zh),([]:List zh),v53,())).bind fun
  | .inl (v111,v112,v113,v114,v115,v116,v117,v118,v119,v120,v121,_)=>(G35 k ((v116,v121,v117,v118,v119,v120,v112,()),())).bind fun v122=>
   ((bif (!v114) then
     some (true,v111,v112,v113,v114,v115,v116,v121,v117,v118,v119,v120,())
    else
     (bif (!v115) then
      some (true,v111,v112,v113,v114,v115,v116,v121,v117,v118,v119,v120,())
     else
      some ((v122.2.1 != (0:Int)),v111,v112,v113,v114,v115,v116,v121,v117,v118,v119,v120,())))).bind fun (v123,v124,v125,v126,v127,v128,v129,v130,v131,v132,v133,v134,_)=>
   (bif v123 then
    some ((([]:List yd),([]:List (List UInt8)),([]:List ScT),([]:List RuT),([]:List zh),([]:List zh),(0:Int),()),(0:Int),(5:Int),())
   else
    some ((v129,v130,v131,v132,v133,v134,v125,()),(0:Int),(0:Int),()))
  | .inr v135=>some ((([]:List yd),([]:List (List UInt8)),([]:List ScT),([]:List RuT),([]:List zh),([]:List zh),v135.2.2.1,()),v135.1,v135.2.1,()))
theorem zo9 (k:Nat):FOk (S:=SyS) prog 24 [.val (.str)] [.val (.st 4),.val (.int .i64),.val (.int .i64)] (G24 k):=FOk.mk (k:=k) [.l ⟨[p 2 1,(5,.b (.whole 2)),e 6 .bool,p 7 3,e 8 (.int .i64)],[(1,.box none [.nil,.nil,.nil,.nil,.nil,.nil,.one 1 (.int .i64)]),(2,.row 1 .str),(3,.box none [.nil,.nil,.nil,.nil,.nil,.nil,.one 1 (.int .i64),.whole 4,.one 1 (.int .i64),.one 1 .bool,.one 1 .bool]),(4,.row 1 .str)],5,false⟩ [(.exit 0,⟨[p 2 1,(5,.b (.whole 2)),e 6 .bool,p 7 3],[(1,.box none [.nil,.nil,.nil,.nil,.nil,.nil,.one 1 (.int .i64)]),(2,.row 1 .str),(3,.box none [.nil,.nil,.nil,.nil,.nil,.nil,.one 1 (.int .i64),.whole 4,.one 1 (.int .i64),.one 1 .bool,.one 1 .bool]),(4,.row 1 .str)],5,false⟩)],.c 65 [(.normal,⟨[p 2 1,(5,.b (.whole 2)),e 6 .bool,p 7 3,e 8 (.int .i64),(9,.b (.whole 5)),e 66 .bool],[(1,.box none [.nil,.nil,.nil,.nil,.nil,.nil,.one 1 (.int .i64)]),(2,.row 1 .str),(3,.box none [.nil,.nil,.nil,.nil,.nil,.nil,.one 1 (.int .i64),.whole 4,.one 1 (.int .i64),.one 1 .bool,.one 1 .bool]),(4,.row 1 .str),(5,.row 1 .str)],6,false⟩)],.c 99 [(.normal,⟨[p 2 1,(5,.b (.whole 2)),e 6 .bool,p 7 3,e 8 (.int .i64)],[(1,.box none [.nil,.nil,.nil,.nil,.nil,.nil,.one 1 (.int .i64)]),(2,.row 1 .str),(3,.box none [.nil,.nil,.nil,.nil,.nil,.nil,.one 1 (.int .i64),.whole 4,.one 1 (.int .i64),.one 1 .bool,.one 1 .bool]),(4,.row 1 .str)],5,false⟩)],.e 109 .str,.e 110 .str,.l ⟨[p 2 1,(5,.b (.whole 2)),e 6 .bool,p 7 3,e 10 (.int .i64)],[(1,.box none [.nil,.nil,.nil,.nil,.nil,.nil,.one 1 (.int .i64)]),(2,.row 1 .str),(3,.box none [.whole 4,.nil,.whole 5,.whole 6,.whole 7,.whole 8,.one 1 (.int .i64),.whole 9,.one 1 (.int .i64),.one 1 .bool,.one 1 .bool]),(4,.row 4 (.st 1)),(5,.row 4 (.st 2)),(6,.row 4 (.st 3)),(7,.row 4 (.arr 4 .u64)),(8,.row 4 (.arr 4 .u64)),(9,.row 4 .str)],10,true⟩ [(.exit 2,⟨[p 2 1,p 7 2],[(1,.box none [.nil,.nil,.nil,.nil,.nil,.nil,.one 1 (.int .i64)]),(2,.box none [.whole 3,.nil,.whole 4,.whole 5,.whole 6,.whole 7,.one 1 (.int .i64),.whole 8,.one 1 (.int .i64),.one 1 .bool,.one 1 .bool]),(3,.row 4 (.st 1)),(4,.row 4 (.st 2)),(5,.row 4 (.st 3)),(6,.row 4 (.arr 4 .u64)),(7,.row 4 (.arr 4 .u64)),(8,.row 4 .str)],9,true⟩),(.ret,⟨[p 2 1,e 3 (.int .i64),e 4 (.int .i64)],[(1,.box none [.nil,.nil,.nil,.nil,.nil,.nil,.one 1 (.int .i64)])],2,true⟩)],.c 139 [(.normal,⟨[p 2 1,(5,.b (.whole 2)),e 6 .bool,p 7 3,e 10 (.int .i64),e 103 .bool],[(1,.box none [.nil,.nil,.nil,.nil,.nil,.nil,.one 1 (.int .i64)]),(2,.row 1 .str),(3,.box none [.whole 4,.nil,.whole 5,.whole 6,.whole 7,.whole 8,.one 1 (.int .i64),.whole 9,.one 1 (.int .i64),.one 1 .bool,.one 1 .bool]),(4,.row 4 (.st 1)),(5,.row 4 (.st 2)),(6,.row 4 (.st 3)),(7,.row 4 (.arr 4 .u64)),(8,.row 4 (.arr 4 .u64)),(9,.row 4 .str)],10,true⟩)],.z 156 100,.h ⟨[(3,some 0),(4,none),(5,none),(6,none),(7,none),(8,none),(9,none)],⟨[e 0 .bool],[(3,.box (some 0) [.whole 12,.nil,.whole 13,.whole 14,.whole 15,.whole 16,.one 1 (.int .i64),.whole 17,.one 1 (.int .i64),.one 1 .bool,.one 1 .bool]),(12,.row 4 (.st 1)),(13,.row 4 (.st 2)),(14,.row 4 (.st 3)),(15,.row 4 (.arr 4 .u64)),(16,.row 4 (.arr 4 .u64)),(17,.row 4 .str)],18,true⟩⟩,.c 202 [(.normal,⟨[p 2 1,p 7 2,e 138 .bool],[(1,.box none [.nil,.nil,.nil,.nil,.nil,.nil,.one 1 (.int .i64)]),(2,.box none [.whole 3,.whole 4,.whole 5,.whole 6,.whole 7,.whole 8,.one 1 (.int .i64),.whole 4,.one 1 (.int .i64),.one 1 .bool,.one 1 .bool]),(3,.row 4 (.st 1)),(4,.row 4 .str),(5,.row 4 (.st 2)),(6,.row 4 (.st 3)),(7,.row 4 (.arr 4 .u64)),(8,.row 4 (.arr 4 .u64))],9,true⟩)]] [enP (zo4 k),enP (zo3 k),enP (zdl k),enP (zep k),enH (zo2 k),enP (zo1 k)] (by kernel_rfl) fun _=>by kernel_rfl
def zm0 (k:Nat):LB (zv×Int×za) ((zv×za) ⊕ (Bool×Unit)):=fun (v4,v5,v6,v7,v8,_)=>
 (at? v4.1 v7).bind fun v9=>
 (bif decide (v8<(v9.1.length:Int)) then
  (at? v4.1 v7).bind fun v10=>
  (at? v10.1 v8).bind fun v11=>
  (G18 k (v11,v5,())).bind fun (v12,_)=>
  (at? v4.1 v7).bind fun v13=>
  (at? v13.1 v8).bind fun v14=>
  (G18 k (v14,v6,())).bind fun (v15,_)=>
  (bif (if (true=true) then (!(v12==v15)) else (v12==v15)) then
   some (.inr (.inr (false,())))
  else
   some (.inl (v4,v5,v6,v7,(w64 (v8+(1:Int))),())))
 else
  some (.inr (.inl (v4,v5,v6,v7,()))))
def zm1 (k:Nat):LB (zv×za) (Unit ⊕ (Bool×Unit)):=fun (v0,v1,v2,v3,_)=>
 (bif decide (v3<(v0.1.length:Int)) then
  (iter k (zm0 k) (v0,v1,v2,v3,(0:Int),())).bind fun
  | .inl (v16,v17,v18,v19,_)=>some (.inl (v16,v17,v18,(w64 (v19+(1:Int))),()))
  | .inr (v20,_)=>some (.inr (.inr (v20,())))
 else
  some (.inr (.inl ())))
def G67 (k:Nat):zv×Int×Int×Unit→(Option (Bool×Unit)):=fun (a0,a1,a2,_)=>
 (iter k (zm1 k) (a0,a1,a2,(0:Int),())).bind fun
 | .inl _=>some (true,())
 | .inr (v21,_)=>some (v21,())
theorem zoF (k:Nat):FOk (S:=SyS) prog 67 [.ptr (.st 14),.val (.int .u8),.val (.int .u8)] [.val .bool] (G67 k):=FOk.mk (k:=k) [.l ⟨[(0,.b (.fp 1 (.st 14) 0)),e 1 (.int .u8),e 2 (.int .u8),e 7 (.int .i64)],[],1,false⟩ [(.exit 0,⟨[],[],1,false⟩),(.ret,⟨[e 6 .bool],[],1,false⟩)],.l ⟨[(0,.b (.fp 1 (.st 14) 0)),e 1 (.int .u8),e 2 (.int .u8),e 7 (.int .i64),e 8 (.int .i64)],[],1,false⟩ [(.exit 2,⟨[(0,.b (.fp 1 (.st 14) 0)),e 1 (.int .u8),e 2 (.int .u8),e 7 (.int .i64)],[],1,false⟩),(.ret,⟨[e 6 .bool],[],1,false⟩)]] [enP (zeq k)] (by kernel_rfl) fun _=>by kernel_rfl
def zny (k:Nat):LB (Int×Bool×Int×(List zk)×(List (List zI))×(List Int)×yg×yg×Unit) (Int×Bool×(List zk)×(List (List zI))×(List Int)×yg×yg×Unit):=fun (v6,v7,v8,v9,v10,v11,v12,v13,_)=>
 ((bif decide (v8<(v11.length:Int)) then
   some (v6,v7,v8,(!v7),v9,v10,v11,v12,v13,())
  else
   some (v6,v7,v8,false,v9,v10,v11,v12,v13,()))).bind fun (v14,v15,v16,v17,v18,v19,v20,v21,v22,_)=>
 (bif v17 then
  (at? v20 v16).bind fun v23=>
  (List.get?Internal v20 (Int.toNat v16)).bind fun v24=>
  (G67 k ((v18,v19,v20,()),(IntKind.u8.wrap v14),v24,())).bind fun (v25,_)=>
  ((bif v25 then
    inr? v14 256 (some (v14,true,v16,v18,v19,v20,v21,(Arr.upd v22 (Int.toNat v14) (IntKind.u8.wrap v16)),()))
   else
    some (v14,v15,v16,v18,v19,v20,v21,v22,()))).bind fun (v26,v27,v28,v29,v30,v31,v32,v33,_)=>
  some (.inl (v26,v27,(w64 (v28+(1:Int))),v29,v30,v31,v32,v33,()))
 else
  some (.inr (v14,v15,v18,v19,v20,v21,v22,())))
def znz (k:Nat):LB (Int×(List zk)×(List (List zI))×(List Int)×yg×yg×Unit) ((List zk)×(List (List zI))×(List Int)×yg×yg×Unit):=fun (v0,v1,v2,v3,v4,v5,_)=>
 (bif decide (v0<(256:Int)) then
  (iter k (zny k) (v0,false,(0:Int),v1,v2,v3,v4,v5,())).bind fun (v34,v35,v36,v37,v38,v39,v40,_)=>
  ((bif (!v35) then
    inr? v34 256 (room ((List.length v38)+(List.length ([(IntKind.u8.wrap v34)]:List Int))) 1 (some (v34,v36,v37,(v38++([(IntKind.u8.wrap v34)]:List Int)),v39,(Arr.upd v40 (Int.toNat v34) (IntKind.u8.wrap (v38.length:Int))),())))
   else
    some (v34,v36,v37,v38,v39,v40,()))).bind fun (v41,v42,v43,v44,v45,v46,_)=>
  some (.inl ((w64 (v41+(1:Int))),v42,v43,v44,v45,v46,()))
 else
  some (.inr (v1,v2,v3,v4,v5,())))
def G37 (k:Nat):List zk×List (List zI)×Unit→(Option (yg×zv)):=fun (a0,a1,_)=>
 (iter k (znz k) ((0:Int),a0,a1,([]:List Int),(⟨([0,0,0,0,0,0,0,0,0,0,0,0,0,0,0,0,0,0,0,0,0,0,0,0,0,0,0,0,0,0,0,0,0,0,0,0,0,0,0,0,0,0,0,0,0,0,0,0,0,0,0,0,0,0,0,0,0,0,0,0,0,0,0,0,0,0,0,0,0,0,0,0,0,0,0,0,0,0,0,0,0,0,0,0,0,0,0,0,0,0,0,0,0,0,0,0,0,0,0,0,0,0,0,0,0,0,0,0,0,0,0,0,0,0,0,0,0,0,0,0,0,0,0,0,0,0,0,0,0,0,0,0,0,0,0,0,0,0,0,0,0,0,0,0,0,0,0,0,0,0,0,0,0,0,0,0,0,0,0,0,0,0,0,0,0,0,0,0,0,0,0,0,0,0,0,0,0,0,0,0,0,0,0,0,0,0,0,0,0,0,0,0,0,0,0,0,0,0,0,0,0,0,0,0,0,0,0,0,0,0,0,0,0,0,0,0,0,0,0,0,0,0,0,0,0,0,0,0,0,0,0,0,0,0,0,0,0,0,0,0,0,0,0,0,0,0,0,0,0,0,0,0,0,0,0,0]:List Int),rfl⟩:yg),(⟨([0,0,0,0,0,0,0,0,0,0,0,0,0,0,0,0,0,0,0,0,0,0,0,0,0,0,0,0,0,0,0,0,0,0,0,0,0,0,0,0,0,0,0,0,0,0,0,0,0,0,0,0,0,0,0,0,0,0,0,0,0,0,0,0,0,0,0,0,0,0,0,0,0,0,0,0,0,0,0,0,0,0,0,0,0,0,0,0,0,0,0,0,0,0,0,0,0,0,0,0,0,0,0,0,0,0,0,0,0,0,0,0,0,0,0,0,0,0,0,0,0,0,0,0,0,0,0,0,0,0,0,0,0,0,0,0,0,0,0,0,0,0,0,0,0,0,0,0,0,0,0,0,0,0,0,0,0,0,0,0,0,0,0,0,0,0,0,0,0,0,0,0,0,0,0,0,0,0,0,0,0,0,0,0,0,0,0,0,0,0,0,0,0,0,0,0,0,0,0,0,0,0,0,0,0,0,0,0,0,0,0,0,0,0,0,0,0,0,0,0,0,0,0,0,0,0,0,0,0,0,0,0,0,0,0,0,0,0,0,0,0,0,0,0,0,0,0,0,0,0,0,0,0,0,0,0]:List Int),rfl⟩:yg),())).bind fun (v47,v48,v49,v50,v51,_)=>
 some (v51,v47,v48,v49,())
theorem zo0 (k:Nat):HOk (S:=SyS) prog 37 zlH zlG (G37 k):=HOk.mk (k:=k) [.l ⟨[p 0 0,p 2 4,p 3 5,e 4 (.int .i64)],[(0,.box (some 0) [.whole 1,.whole 2,.whole 3]),(1,.row 1 (.st 7)),(2,.row 1 (.own (.st 8))),(3,.row 1 (.int .u8)),(4,.box none [.one 1 (.arr 256 .u8)]),(5,.box none [.one 1 (.arr 256 .u8)])],6,false⟩ [(.exit 0,⟨[p 0 0,p 2 4,p 3 5],[(0,.box (some 0) [.whole 1,.whole 2,.whole 3]),(1,.row 1 (.st 7)),(2,.row 1 (.own (.st 8))),(3,.row 1 (.int .u8)),(4,.box none [.one 1 (.arr 256 .u8)]),(5,.box none [.one 1 (.arr 256 .u8)])],6,false⟩)],.l ⟨[p 0 0,p 2 4,p 3 5,e 4 (.int .i64),e 5 .bool,e 6 (.int .i64)],[(0,.box (some 0) [.whole 1,.whole 2,.whole 3]),(1,.row 1 (.st 7)),(2,.row 1 (.own (.st 8))),(3,.row 1 (.int .u8)),(4,.box none [.one 1 (.arr 256 .u8)]),(5,.box none [.one 1 (.arr 256 .u8)])],6,false⟩ [(.exit 2,⟨[p 0 0,p 2 4,p 3 5,e 4 (.int .i64),e 5 .bool],[(0,.box (some 0) [.whole 1,.whole 2,.whole 3]),(1,.row 1 (.st 7)),(2,.row 1 (.own (.st 8))),(3,.row 1 (.int .u8)),(4,.box none [.one 1 (.arr 256 .u8)]),(5,.box none [.one 1 (.arr 256 .u8)])],6,false⟩)],.c 37 [(.normal,⟨[p 0 0,p 2 4,p 3 5,e 4 (.int .i64),e 5 .bool,e 6 (.int .i64),e 21 .bool],[(0,.box (some 0) [.whole 1,.whole 2,.whole 3]),(1,.row 1 (.st 7)),(2,.row 1 (.own (.st 8))),(3,.row 1 (.int .u8)),(4,.box none [.one 1 (.arr 256 .u8)]),(5,.box none [.one 1 (.arr 256 .u8)])],6,false⟩)],.c 67 [(.normal,⟨[p 0 0,p 2 4,p 3 5,e 4 (.int .i64),e 5 .bool,e 6 (.int .i64)],[(0,.box (some 0) [.whole 1,.whole 2,.whole 3]),(1,.row 1 (.st 7)),(2,.row 1 (.own (.st 8))),(3,.row 1 (.int .u8)),(4,.box none [.one 1 (.arr 256 .u8)]),(5,.box none [.one 1 (.arr 256 .u8)])],6,false⟩)],.c 86 [(.normal,⟨[p 0 0,p 2 4,p 3 5,e 4 (.int .i64)],[(0,.box (some 0) [.whole 1,.whole 2,.whole 3]),(1,.row 1 (.st 7)),(2,.row 1 (.own (.st 8))),(3,.row 1 (.int .u8)),(4,.box none [.one 1 (.arr 256 .u8)]),(5,.box none [.one 1 (.arr 256 .u8)])],6,false⟩)],.e 107 (.int .u8),.e 108 (.int .u8)] [enP (zoF k)] (by kernel_rfl) (by kernel_rfl) fun _=>by kernel_rfl
def zmY (k:Nat):LB ((List Int)×zI) (Unit ⊕ (Bool×Unit)):=fun (v0,v1,v2,_)=>
 (bif decide (v2<(v0.length:Int)) then
  (at? v0 v2).bind fun v3=>
  (bif (v3==v1) then
   some (.inr (.inr (true,())))
  else
   some (.inl (v0,v1,(w64 (v2+(1:Int))),())))
 else
  some (.inr (.inl ())))
def G69 (k:Nat):(List Int)×Int×Unit→(Option (Bool×Unit)):=fun (a0,a1,_)=>
 (iter k (zmY k) (a0,a1,(0:Int),())).bind fun
 | .inl _=>some (false,())
 | .inr (v4,_)=>some (v4,())
theorem zkR (k:Nat):FOk (S:=SyS) prog 69 [.val (.list (.int .i64)),.val (.int .i64)] [.val .bool] (G69 k):=FOk.mk (k:=k) [.l ⟨[e 0 (.list (.int .i64)),e 1 (.int .i64),e 5 (.int .i64)],[],1,false⟩ [(.exit 0,⟨[],[],1,false⟩),(.ret,⟨[e 4 .bool],[],1,false⟩)]] [] (by kernel_rfl) fun _=>by kernel_rfl
def zmZ (k:Nat):LB (Int×Int×(List zI)×Int×zk×Unit) (Unit ⊕ (Bool×Unit)):=fun (v3,v4,v5,v6,v7,_)=>
 (bif decide (v6<(v5.length:Int)) then
  ((at? v5 v6).bind fun v8=>
   (bif (v8.1==v3) then
    (at? v5 v6).bind fun v9=>
    (at? v7.2.2.2.1 v9.2.1).bind fun v10=>
    (G69 k (v10,v4,())).bind fun (v11,_)=>
    some (v3,v4,v5,v6,v11,v7,())
   else
    some (v3,v4,v5,v6,false,v7,()))).bind fun (v12,v13,v14,v15,v16,v17,_)=>
  (bif v16 then
   some (.inr (.inr (true,())))
  else
   some (.inl (v12,v13,v14,(w64 (v15+(1:Int))),v17,())))
 else
  some (.inr (.inl ())))
def G68 (k:Nat):zv×Int×Int×Int×Unit→(Option (Bool×Unit)):=fun (a0,a1,a2,a3,_)=>
 (at? a0.1 a2).bind fun v0=>
 (bif (a1==(0:Int)) then
  (G69 k (v0.2.1,a3,())).bind fun (v1,_)=>
  some (v1,())
 else
  (at? a0.2.1 a1).bind fun v2=>
  (iter k (zmZ k) (a2,a3,v2,(0:Int),v0,())).bind fun
  | .inl _=>some (false,())
  | .inr (v18,_)=>some (v18,()))
theorem zoE (k:Nat):FOk (S:=SyS) prog 68 [.ptr (.st 14),.val (.int .i64),.val (.int .i64),.val (.int .i64)] [.val .bool] (G68 k):=FOk.mk (k:=k) [.l ⟨[e 2 (.int .i64),e 3 (.int .i64),p 9 1,e 10 (.list (.st 8)),e 11 (.int .i64)],[(1,.box none [.one 1 (.st 7)])],2,false⟩ [(.exit 0,⟨[],[],1,false⟩),(.ret,⟨[e 8 .bool],[],1,false⟩)],.c 61 [(.normal,⟨[e 2 (.int .i64),e 3 (.int .i64),p 9 1,e 10 (.list (.st 8)),e 11 (.int .i64),e 57 .bool],[(1,.box none [.one 1 (.st 7)])],2,false⟩)]] [enP (zkR k)] (by kernel_rfl) fun _=>by kernel_rfl
def znw (k:Nat):LB (zv×Int×Int×Int×Int×(List zI)×zk×Unit) (zv×Int×Int×Int×(List zI)×Unit):=fun (v6,v7,v8,v9,v10,v11,v12,_)=>
 (bif decide (v10<(v12.1.length:Int)) then
  ((at? v12.1 v10).bind fun v13=>
   (G18 k (v13,v8,())).bind fun (v14,_)=>
   (bif v14 then
    (G68 k (v6,v7,v9,v10,())).bind fun (v15,_)=>
    some (v6,v7,v8,v9,v10,v15,v11,v12,())
   else
    some (v6,v7,v8,v9,v10,false,v11,v12,()))).bind fun (v16,v17,v18,v19,v20,v21,v22,v23,_)=>
  ((bif v21 then
    room ((List.length v22)+(List.length ([(v19,v20,())]:List zI))) 16 (some (v16,v17,v18,v19,v20,(v22++([(v19,v20,())]:List zI)),v23,()))
   else
    some (v16,v17,v18,v19,v20,v22,v23,()))).bind fun (v24,v25,v26,v27,v28,v29,v30,_)=>
  some (.inl (v24,v25,v26,v27,(w64 (v28+(1:Int))),v29,v30,()))
 else
  some (.inr (v6,v7,v8,v9,v11,())))
def znx (k:Nat):LB (zv×Int×Int×Int×(List zI)×Unit) ((List zI)×Unit):=fun (v0,v1,v2,v3,v4,_)=>
 (bif decide (v3<(v0.1.length:Int)) then
  (at? v0.1 v3).bind fun v5=>
  (iter k (znw k) (v0,v1,v2,v3,(0:Int),v4,v5,())).bind fun (v31,v32,v33,v34,v35,_)=>
  some (.inl (v31,v32,v33,(w64 (v34+(1:Int))),v35,()))
 else
  some (.inr (v4,())))
def G38 (k:Nat):zv×Int×Int×Unit→(Option ((List zI)×Unit)):=fun (a0,a1,a2,_)=>
 (iter k (znx k) (a0,a1,a2,(0:Int),([]:List zI),())).bind fun (v36,_)=>
 some (v36,())
theorem zoZ (k:Nat):FOk (S:=SyS) prog 38 [.ptr (.st 14),.val (.int .i64),.val (.int .u8)] [.own (.st 8)] (G38 k):=FOk.mk (k:=k) [.l ⟨[(0,.b (.fp 1 (.st 14) 0)),e 1 (.int .i64),e 2 (.int .u8),(7,.b (.whole 1)),e 8 (.int .i64)],[(1,.row 1 (.st 8))],2,false⟩ [(.exit 0,⟨[(7,.b (.whole 1))],[(1,.row 1 (.st 8))],2,false⟩)],.l ⟨[(0,.b (.fp 1 (.st 14) 0)),e 1 (.int .i64),e 2 (.int .u8),(7,.b (.whole 1)),e 8 (.int .i64),p 9 2,e 10 (.int .i64)],[(1,.row 1 (.st 8)),(2,.box none [.one 1 (.st 7)])],3,false⟩ [(.exit 2,⟨[(0,.b (.fp 1 (.st 14) 0)),e 1 (.int .i64),e 2 (.int .u8),(7,.b (.whole 1)),e 8 (.int .i64)],[(1,.row 1 (.st 8))],2,false⟩)],.c 60 [(.normal,⟨[(0,.b (.fp 1 (.st 14) 0)),e 1 (.int .i64),e 2 (.int .u8),(7,.b (.whole 1)),e 8 (.int .i64),p 9 2,e 10 (.int .i64),e 47 .bool],[(1,.row 1 (.st 8)),(2,.box none [.one 1 (.st 7)])],3,false⟩)],.c 76 [(.normal,⟨[(0,.b (.fp 1 (.st 14) 0)),e 1 (.int .i64),e 2 (.int .u8),(7,.b (.whole 1)),e 8 (.int .i64),p 9 2,e 10 (.int .i64)],[(1,.row 1 (.st 8)),(2,.box none [.one 1 (.st 7)])],3,false⟩)],.e 82 (.st 8),.e 83 (.st 8)] [enP (zeq k),enP (zoE k)] (by kernel_rfl) fun _=>by kernel_rfl
def znu (k:Nat):LB (zv×(List zI)×Int×Bool×Int×Unit) (zv×(List zI)×Int×Bool×Unit):=fun (v4,v5,v6,v7,v8,_)=>
 (bif decide (v8<(v5.length:Int)) then
  ((bif v7 then
    (at? v4.2.1 v6).bind fun v9=>
    (at? v9 v8).bind fun v10=>
    (at? v5 v8).bind fun v11=>
    some (v4,v5,v6,(if (false=true) then (!((v10.1==v11.1)&&((v10.2.1==v11.2.1)&&true))) else ((v10.1==v11.1)&&((v10.2.1==v11.2.1)&&true))),v8,())
   else
    some (v4,v5,v6,false,v8,()))).bind fun (v12,v13,v14,v15,v16,_)=>
  some (.inl (v12,v13,v14,v15,(w64 (v16+(1:Int))),()))
 else
  some (.inr (v4,v5,v6,v7,())))
def znv (k:Nat):LB (zv×(List zI)×Int×Unit) (Unit ⊕ (Int×Unit)):=fun (v0,v1,v2,_)=>
 (bif decide (v2<(v0.2.1.length:Int)) then
  ((at? v0.2.1 v2).bind fun v3=>
   (bif ((v3.length:Int) != (v1.length:Int)) then
    some (.inl (v0,v1,v2,()))
   else
    (iter k (znu k) (v0,v1,v2,true,(0:Int),())).bind fun (v17,v18,v19,v20,_)=>
    (bif v20 then
     some (.inr (v19,()))
    else
     some (.inl (v17,v18,v19,())))):Option ((zv×(List zI)×Int×Unit) ⊕ (Int×Unit))).bind fun
  | .inl (v21,v22,v23,_)=>some (.inl (v21,v22,(w64 (v23+(1:Int))),()))
  | .inr (v24,_)=>some (.inr (.inr (v24,())))
 else
  some (.inr (.inl ())))
def G39 (k:Nat):zv×(List zI)×Unit→(Option (Int×Unit)):=fun (a0,a1,_)=>
 (iter k (znv k) (a0,a1,(1:Int),())).bind fun
 | .inl _=>some ((-(1:Int)),())
 | .inr (v25,_)=>some (v25,())
theorem zoY (k:Nat):FOk (S:=SyS) prog 39 [.ptr (.st 14),.val (.list (.st 8))] [.val (.int .i64)] (G39 k):=FOk.mk (k:=k) [.l ⟨[(0,.b (.fp 1 (.st 14) 0)),e 1 (.list (.st 8)),e 5 (.int .i64)],[],1,false⟩ [(.exit 0,⟨[],[],1,false⟩),(.ret,⟨[e 4 (.int .i64)],[],1,false⟩)],.c 24 [(.normal,⟨[(0,.b (.fp 1 (.st 14) 0)),e 1 (.list (.st 8)),e 5 (.int .i64)],[],1,false⟩),(.ret,⟨[e 4 (.int .i64)],[],1,false⟩)],.l ⟨[(0,.b (.fp 1 (.st 14) 0)),e 1 (.list (.st 8)),e 5 (.int .i64),e 6 .bool,e 7 (.int .i64)],[],1,false⟩ [(.exit 2,⟨[(0,.b (.fp 1 (.st 14) 0)),e 1 (.list (.st 8)),e 5 (.int .i64),e 6 .bool],[],1,false⟩)],.c 63 [(.normal,⟨[(0,.b (.fp 1 (.st 14) 0)),e 1 (.list (.st 8)),e 5 (.int .i64),e 6 .bool,e 7 (.int .i64)],[],1,false⟩)]] [] (by kernel_rfl) fun _=>by kernel_rfl
end
end Go.Pi
