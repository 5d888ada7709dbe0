import Derived.Test.YtmfccopfmddllaaGreatWtF1
set_option linter.all false
namespace Go.Pi
open Z
set_option linter.unusedVariables false
set_option maxRecDepth 100000
noncomputable section
def zns (k:Nat):LB (zv×Int×Int×Int×zk×Unit) ((zv×zI) ⊕ (Int×Unit)):=fun (v9,v10,v11,v12,v13,_)=>
 (at? v9.2.1 v10).bind fun v14=>
 (bif decide (v12<(v14.length:Int)) then
  ((at? v9.2.1 v10).bind fun v15=>
   (at? v15 v12).bind fun v16=>
   (bif (v16.1==v11) then
    (at? v9.2.1 v10).bind fun v17=>
    (at? v17 v12).bind fun v18=>
    (G69 k (v13.2.2.1,v18.2.1,())).bind fun (v19,_)=>
    some (v9,v10,v11,v12,v19,v13,())
   else
    some (v9,v10,v11,v12,false,v13,()))).bind fun (v20,v21,v22,v23,v24,v25,_)=>
  (bif v24 then
   some (.inr (.inr (v22,())))
  else
   some (.inl (v20,v21,v22,(w64 (v23+(1:Int))),v25,())))
 else
  some (.inr (.inl (v9,v10,v11,()))))
def znt (k:Nat):LB (zv×zI) (Unit ⊕ (Int×Unit)):=fun (v0,v1,v2,_)=>
 (bif decide (v2<(v0.1.length:Int)) then
  ((at? v0.1 v2).bind fun v3=>
   ((bif (v1==(0:Int)) then
     some (v0,v1,v2,v3.2.2.2.2.1,v3,())
    else
     some (v0,v1,v2,false,v3,()))).bind fun (v4,v5,v6,v7,v8,_)=>
   (bif v7 then
    some (.inl (v6,()))
   else
    (iter k (zns k) (v4,v5,v6,(0:Int),v8,())).bind fun
    | .inl (v26,v27,v28,_)=>some (.inr (v26,v27,v28,()))
    | .inr (v29,_)=>some (.inl (v29,()))):Option ((Int×Unit) ⊕ (zv×zI))).bind fun
  | .inl (v30,_)=>some (.inr (.inr (v30,())))
  | .inr (v31,v32,v33,_)=>some (.inl (v31,v32,(w64 (v33+(1:Int))),()))
 else
  some (.inr (.inl ())))
def G40 (k:Nat):zv×Int×Unit→(Option (Int×Unit)):=fun (a0,a1,_)=>
 (iter k (znt k) (a0,a1,(0:Int),())).bind fun
 | .inl _=>some ((-(1:Int)),())
 | .inr (v34,_)=>some (v34,())
theorem zoX (k:Nat):FOk (S:=SyS) prog 40 [.ptr (.st 14),.val (.int .i64)] [.val (.int .i64)] (G40 k):=FOk.mk (k:=k) [.l ⟨[(0,.b (.fp 1 (.st 14) 0)),e 1 (.int .i64),e 5 (.int .i64)],[],1,false⟩ [(.exit 0,⟨[],[],1,false⟩),(.ret,⟨[e 4 (.int .i64)],[],1,false⟩)],.c 24 [(.ret,⟨[e 4 (.int .i64)],[],1,false⟩),(.normal,⟨[(0,.b (.fp 1 (.st 14) 0)),e 1 (.int .i64),e 5 (.int .i64)],[],1,false⟩)],.c 39 [(.normal,⟨[(0,.b (.fp 1 (.st 14) 0)),e 1 (.int .i64),e 5 (.int .i64),p 6 1,e 29 .bool],[(1,.box none [.one 1 (.st 7)])],2,false⟩)],.l ⟨[(0,.b (.fp 1 (.st 14) 0)),e 1 (.int .i64),e 5 (.int .i64),p 6 1,e 7 (.int .i64)],[(1,.box none [.one 1 (.st 7)])],2,false⟩ [(.exit 2,⟨[(0,.b (.fp 1 (.st 14) 0)),e 1 (.int .i64),e 5 (.int .i64)],[],1,false⟩),(.ret,⟨[e 4 (.int .i64)],[],1,false⟩)],.c 77 [(.normal,⟨[(0,.b (.fp 1 (.st 14) 0)),e 1 (.int .i64),e 5 (.int .i64),p 6 1,e 7 (.int .i64),e 71 .bool],[(1,.box none [.one 1 (.st 7)])],2,false⟩)]] [enP (zkR k)] (by kernel_rfl) fun _=>by kernel_rfl
def zn6 (k:Nat):LB ((List yd)×Int×yg×(List zk)×(List (List zI))×Unit) ((yg×(List zk)×(List (List zI))×Unit) ⊕ (Int×yg×Unit)):=fun (v0,v1,v2,v3,v4,_)=>
 (bif decide (v1<(v0.length:Int)) then
  (at? v0 v1).bind fun v5=>
  (G36 k (v5.2.1,())).bind fun (v6,v7,_)=>
  (bif (v7 != (0:Int)) then
   some (.inr (.inr (v7,(⟨([0,0,0,0,0,0,0,0,0,0,0,0,0,0,0,0,0,0,0,0,0,0,0,0,0,0,0,0,0,0,0,0,0,0,0,0,0,0,0,0,0,0,0,0,0,0,0,0,0,0,0,0,0,0,0,0,0,0,0,0,0,0,0,0,0,0,0,0,0,0,0,0,0,0,0,0,0,0,0,0,0,0,0,0,0,0,0,0,0,0,0,0,0,0,0,0,0,0,0,0,0,0,0,0,0,0,0,0,0,0,0,0,0,0,0,0,0,0,0,0,0,0,0,0,0,0,0,0,0,0,0,0,0,0,0,0,0,0,0,0,0,0,0,0,0,0,0,0,0,0,0,0,0,0,0,0,0,0,0,0,0,0,0,0,0,0,0,0,0,0,0,0,0,0,0,0,0,0,0,0,0,0,0,0,0,0,0,0,0,0,0,0,0,0,0,0,0,0,0,0,0,0,0,0,0,0,0,0,0,0,0,0,0,0,0,0,0,0,0,0,0,0,0,0,0,0,0,0,0,0,0,0,0,0,0,0,0,0,0,0,0,0,0,0,0,0,0,0,0,0,0,0,0,0,0,0]:List Int),rfl⟩:yg),())))
  else
   room ((List.length v3)+(List.length ([v6]:List zk))) 104 (some (.inl (v0,(w64 (v1+(1:Int))),v2,(v3++([v6]:List zk)),v4,()))))
 else
  some (.inr (.inl (v2,v3,v4,()))))
def zn4 (k:Nat):LB (Int×Int×yg×(List zk)×(List (List zI))×(List Int)×yg×(List (List Int))×(List Int)×(List Int)×Unit) ((Int×yg×(List zk)×(List (List zI))×(List Int)×yg×(List (List Int))×(List Int)×(List Int)×Unit) ⊕ (Int×yg×Unit)):=fun (v23,v24,v25,v26,v27,v28,v29,v30,v31,v32,_)=>
 (bif decide (v24<(v28.length:Int)) then
  (at? v28 v24).bind fun v33=>
  (List.get?Internal v28 (Int.toNat v24)).bind fun v34=>
  (G38 k ((v26,v27,v28,()),v23,v34,())).bind fun (v35,_)=>
  ((bif decide ((v35.length:Int)>(0:Int)) then
    (G39 k ((v26,v27,v28,()),v35,())).bind fun (v36,_)=>
    ((bif decide (v36<(0:Int)) then
      (bif (List.isEmpty ([v35]:List (List zI))) then
       (Option.none)
      else
       room ((List.length v27)+(List.length ([v35]:List (List zI)))) 24 (some (v23,v24,(v27.length:Int),v25,v26,(v27++([v35]:List (List zI))),v28,v29,v30,v31,v32,())))
     else
      some (v23,v24,v36,v25,v26,v27,v28,v29,v30,v31,v32,()))).bind fun (v37,v38,v39,v40,v41,v42,v43,v44,v45,v46,v47,_)=>
    some (v37,v38,v39,v40,v41,v42,v43,v44,v45,v46,v47,())
   else
    some (v23,v24,(-(1:Int)),v25,v26,v27,v28,v29,v30,v31,v32,()))).bind fun (v48,v49,v50,v51,v52,v53,v54,v55,v56,v57,v58,_)=>
  (bif decide ((v53.length:Int)>(60:Int)) then
   some (.inr (.inr ((6:Int),(⟨([0,0,0,0,0,0,0,0,0,0,0,0,0,0,0,0,0,0,0,0,0,0,0,0,0,0,0,0,0,0,0,0,0,0,0,0,0,0,0,0,0,0,0,0,0,0,0,0,0,0,0,0,0,0,0,0,0,0,0,0,0,0,0,0,0,0,0,0,0,0,0,0,0,0,0,0,0,0,0,0,0,0,0,0,0,0,0,0,0,0,0,0,0,0,0,0,0,0,0,0,0,0,0,0,0,0,0,0,0,0,0,0,0,0,0,0,0,0,0,0,0,0,0,0,0,0,0,0,0,0,0,0,0,0,0,0,0,0,0,0,0,0,0,0,0,0,0,0,0,0,0,0,0,0,0,0,0,0,0,0,0,0,0,0,0,0,0,0,0,0,0,0,0,0,0,0,0,0,0,0,0,0,0,0,0,0,0,0,0,0,0,0,0,0,0,0,0,0,0,0,0,0,0,0,0,0,0,0,0,0,0,0,0,0,0,0,0,0,0,0,0,0,0,0,0,0,0,0,0,0,0,0,0,0,0,0,0,0,0,0,0,0,0,0,0,0,0,0,0,0,0,0,0,0,0,0]:List Int),rfl⟩:yg),())))
  else
   room ((List.length v58)+(List.length ([v50]:List Int))) 8 (some (.inl (v48,(w64 (v49+(1:Int))),v51,v52,v53,v54,v55,v56,v57,(v58++([v50]:List Int)),()))))
 else
  some (.inr (.inl (v23,v25,v26,v27,v28,v29,v30,v31,v32,()))))
def zn5 (k:Nat):LB (Int×yg×(List zk)×(List (List zI))×(List Int)×ql) ((yg×ql) ⊕ (Int×yg×Unit)):=fun (v15,v16,v17,v18,v19,v20,v21,v22,_)=>
 (bif decide (v15<(v18.length:Int)) then
  (iter k (zn4 k) (v15,(0:Int),v16,v17,v18,v19,v20,v21,v22,([]:List Int),())).bind fun
  | .inl (v59,v60,v61,v62,v63,v64,v65,v66,v67,_)=>(bif (List.isEmpty ([v67]:List (List Int))) then
    (Option.none)
   else
    room ((List.length v65)+(List.length ([v67]:List (List Int)))) 24 ((G40 k ((v61,v62,v63,()),v59,())).bind fun (v68,_)=>
    room ((List.length v66)+(List.length ([v68]:List Int))) 8 (some (.inl ((w64 (v59+(1:Int))),v60,v61,v62,v63,v64,(v65++([v67]:List (List Int))),(v66++([v68]:List Int)),())))))
  | .inr (v69,v70,_)=>some (.inr (.inr (v69,v70,())))
 else
  some (.inr (.inl (v16,v20,v21,v22,()))))
def G25 (k:Nat):(List yd)×Unit→(Option (ql×Int×Unit)):=fun (a0,_)=>
 (iter k (zn6 k) (a0,(0:Int),(⟨([0,0,0,0,0,0,0,0,0,0,0,0,0,0,0,0,0,0,0,0,0,0,0,0,0,0,0,0,0,0,0,0,0,0,0,0,0,0,0,0,0,0,0,0,0,0,0,0,0,0,0,0,0,0,0,0,0,0,0,0,0,0,0,0,0,0,0,0,0,0,0,0,0,0,0,0,0,0,0,0,0,0,0,0,0,0,0,0,0,0,0,0,0,0,0,0,0,0,0,0,0,0,0,0,0,0,0,0,0,0,0,0,0,0,0,0,0,0,0,0,0,0,0,0,0,0,0,0,0,0,0,0,0,0,0,0,0,0,0,0,0,0,0,0,0,0,0,0,0,0,0,0,0,0,0,0,0,0,0,0,0,0,0,0,0,0,0,0,0,0,0,0,0,0,0,0,0,0,0,0,0,0,0,0,0,0,0,0,0,0,0,0,0,0,0,0,0,0,0,0,0,0,0,0,0,0,0,0,0,0,0,0,0,0,0,0,0,0,0,0,0,0,0,0,0,0,0,0,0,0,0,0,0,0,0,0,0,0,0,0,0,0,0,0,0,0,0,0,0,0,0,0,0,0,0,0]:List Int),rfl⟩:yg),([]:List zk),([([]:List zI)]:List (List zI)),())).bind fun
 | .inl (v8,v9,v10,_)=>(G37 k (v9,v10,())).bind fun (v11,v12,v13,v14,_)=>
  (iter k (zn5 k) ((0:Int),v8,v12,v13,v14,v11,([]:List (List Int)),([]:List Int),())).bind fun
  | .inl (v71,v72,v73,v74,_)=>some ((v72,v73,v74,()),(0:Int),())
  | .inr (v75,v76,_)=>some ((v76,([]:List (List Int)),([]:List Int),()),v75,())
 | .inr (v77,v78,_)=>some ((v78,([]:List (List Int)),([]:List Int),()),v77,())
theorem zkX (k:Nat):FOk (S:=SyS) prog 25 [.val (.list (.st 1))] [.val (.st 6),.val (.int .i64)] (G25 k):=FOk.mk (k:=k) [.e 7 (.own (.st 8)),.l ⟨[e 0 (.list (.st 1)),p 2 1,p 4 2,e 5 (.int .i64)],[(1,.box none [.one 1 (.arr 256 .u8),.nil,.nil]),(2,.box none [.whole 3,.whole 4,.nil]),(3,.row 1 (.st 7)),(4,.row 1 (.own (.st 8)))],5,false⟩ [(.exit 0,⟨[p 2 1,p 4 2],[(1,.box none [.one 1 (.arr 256 .u8),.nil,.nil]),(2,.box none [.whole 3,.whole 4,.nil]),(3,.row 1 (.st 7)),(4,.row 1 (.own (.st 8)))],5,false⟩),(.ret,⟨[p 2 1,e 3 (.int .i64)],[(1,.box none [.one 1 (.arr 256 .u8),.nil,.nil])],2,false⟩)],.e 66 (.st 7),.e 67 (.st 7),.h ⟨[(2,some 0),(3,none),(4,none)],⟨[e 0 (.arr 256 .u8)],[(2,.box (some 0) [.whole 6,.whole 7,.whole 8]),(6,.row 1 (.st 7)),(7,.row 1 (.own (.st 8))),(8,.row 1 (.int .u8))],9,false⟩⟩,.l ⟨[p 2 1,p 4 2,p 8 6,e 9 (.int .i64)],[(1,.box none [.one 1 (.arr 256 .u8),.nil,.nil]),(2,.box none [.whole 3,.whole 4,.whole 5]),(3,.row 1 (.st 7)),(4,.row 1 (.own (.st 8))),(5,.row 1 (.int .u8)),(6,.box none [.one 1 (.arr 256 .u8),.whole 7,.whole 8]),(7,.row 1 (.own (.int .i64))),(8,.row 1 (.int .i64))],9,false⟩ [(.exit 2,⟨[p 2 1,p 8 2],[(1,.box none [.one 1 (.arr 256 .u8),.nil,.nil]),(2,.box none [.one 1 (.arr 256 .u8),.whole 3,.whole 4]),(3,.row 1 (.own (.int .i64))),(4,.row 1 (.int .i64))],5,false⟩),(.ret,⟨[p 2 1,e 3 (.int .i64)],[(1,.box none [.one 1 (.arr 256 .u8),.nil,.nil])],2,false⟩)],.l ⟨[p 2 1,p 4 2,p 8 6,e 9 (.int .i64),(10,.b (.whole 9)),e 11 (.int .i64)],[(1,.box none [.one 1 (.arr 256 .u8),.nil,.nil]),(2,.box none [.whole 3,.whole 4,.whole 5]),(3,.row 1 (.st 7)),(4,.row 1 (.own (.st 8))),(5,.row 1 (.int .u8)),(6,.box none [.one 1 (.arr 256 .u8),.whole 7,.whole 8]),(7,.row 1 (.own (.int .i64))),(8,.row 1 (.int .i64)),(9,.row 1 (.int .i64))],10,false⟩ [(.exit 4,⟨[p 2 1,p 4 2,p 8 6,e 9 (.int .i64),(10,.b (.whole 9))],[(1,.box none [.one 1 (.arr 256 .u8),.nil,.nil]),(2,.box none [.whole 3,.whole 4,.whole 5]),(3,.row 1 (.st 7)),(4,.row 1 (.own (.st 8))),(5,.row 1 (.int .u8)),(6,.box none [.one 1 (.arr 256 .u8),.whole 7,.whole 8]),(7,.row 1 (.own (.int .i64))),(8,.row 1 (.int .i64)),(9,.row 1 (.int .i64))],10,false⟩),(.ret,⟨[p 2 1,e 3 (.int .i64)],[(1,.box none [.one 1 (.arr 256 .u8),.nil,.nil])],2,false⟩)],.c 156 [(.normal,⟨[p 2 1,p 4 2,p 8 6,e 9 (.int .i64),(10,.b (.whole 9)),e 11 (.int .i64),e 13 (.int .i64)],[(1,.box none [.one 1 (.arr 256 .u8),.nil,.nil]),(2,.box none [.whole 3,.whole 4,.whole 5]),(3,.row 1 (.st 7)),(4,.row 1 (.own (.st 8))),(5,.row 1 (.int .u8)),(6,.box none [.one 1 (.arr 256 .u8),.whole 7,.whole 8]),(7,.row 1 (.own (.int .i64))),(8,.row 1 (.int .i64)),(9,.row 1 (.int .i64))],10,false⟩)],.c 169 [(.normal,⟨[p 2 1,p 4 2,p 8 6,e 9 (.int .i64),(10,.b (.whole 9)),e 11 (.int .i64),e 13 (.int .i64)],[(1,.box none [.one 1 (.arr 256 .u8),.nil,.nil]),(2,.box none [.whole 3,.whole 4,.whole 5]),(3,.row 1 (.st 7)),(4,.row 1 (.own (.st 8))),(5,.row 1 (.int .u8)),(6,.box none [.one 1 (.arr 256 .u8),.whole 7,.whole 8]),(7,.row 1 (.own (.int .i64))),(8,.row 1 (.int .i64)),(9,.row 1 (.int .i64))],10,false⟩)],.e 186 (.own (.st 8)),.e 187 (.own (.st 8)),.e 212 (.int .i64),.e 213 (.int .i64),.e 225 (.own (.int .i64)),.e 226 (.own (.int .i64)),.e 232 (.int .i64),.e 233 (.int .i64)] [enP (ziG k),enH (zo0 k),enP (zoZ k),enP (zoY k),enP (zoX k)] (by kernel_rfl) fun _=>by kernel_rfl
def zlo (k:Nat):za×za×Unit→(Option (Bool×Unit)):=fun (a0,a1,_)=>
 (bif (a0.1 != a1.1) then
  some (decide (a0.1<a1.1),())
 else
  (bif (a0.2.1 != a1.2.1) then
   some (decide (a0.2.1<a1.2.1),())
  else
   some (decide (a0.2.2.1<a1.2.2.1),())))
theorem zmc (k:Nat):FOk (S:=SyS) prog 101 [.val (.st 11),.val (.st 11)] [.val .bool] (zlo k):=FOk.mk (k:=k) [] [] (by kernel_rfl) fun _=>by kernel_rfl
def zmz (k:Nat):LB ((List za)×Int×za×Unit) ((List za)×Int×za×Unit):=fun (v0,v1,v2,_)=>
 ((bif decide (v1<(v0.length:Int)) then
   (at? v0 v1).bind fun v3=>
   (zlo k (v3,v2,())).bind fun (v4,_)=>
   some (v0,v1,v4,v2,())
  else
   some (v0,v1,false,v2,()))).bind fun (v5,v6,v7,v8,_)=>
 (bif v7 then
  some (.inl (v5,(w64 (v6+(1:Int))),v8,()))
 else
  some (.inr (v5,v6,v8,())))
def G90 (k:Nat):(List za)×za×Unit→(Option ((List za)×Bool×Unit)):=fun (a0,a1,_)=>
 (iter k (zmz k) (a0,(0:Int),a1,())).bind fun (v9,v10,v11,_)=>
 ((bif decide (v10<(v9.length:Int)) then
   (at? v9 v10).bind fun v12=>
   some (v9,v10,(if (false=true) then (!((v12.1==v11.1)&&((v12.2.1==v11.2.1)&&((v12.2.2.1==v11.2.2.1)&&true)))) else ((v12.1==v11.1)&&((v12.2.1==v11.2.1)&&((v12.2.2.1==v11.2.2.1)&&true)))),v11,())
  else
   some (v9,v10,false,v11,()))).bind fun (v13,v14,v15,v16,_)=>
 (bif v15 then
  some (v13,false,())
 else
  (hi? (List.length v13) v14).bind fun v17=>
  room ((List.length ([]:List za))+(List.length (slC (Option.none) (Option.some v14) 0 v17 v13))) 24 (room ((List.length (([]:List za)++(slC (Option.none) (Option.some v14) 0 v17 v13)))+(List.length ([v16]:List za))) 24 ((hi? (List.length v13) v14).bind fun v18=>
  room ((List.length ((([]:List za)++(slC (Option.none) (Option.some v14) 0 v17 v13))++([v16]:List za)))+(List.length (slC (Option.some v14) (Option.none) v18 (List.length v13) v13))) 24 (some ((((([]:List za)++(slC (Option.none) (Option.some v14) 0 v17 v13))++([v16]:List za))++(slC (Option.some v14) (Option.none) v18 (List.length v13) v13)),true,())))))
theorem zoo (k:Nat):FOk (S:=SyS) prog 90 [.val (.list (.st 11)),.val (.st 11)] [.cl (.st 11),.val .bool] (G90 k):=FOk.mk (k:=k) [.l ⟨[e 0 (.list (.st 11)),p 3 1,e 6 (.int .i64)],[(1,.box none [.one 1 (.st 11)])],2,false⟩ [(.exit 0,⟨[e 0 (.list (.st 11)),p 3 1,e 6 (.int .i64)],[(1,.box none [.one 1 (.st 11)])],2,false⟩)],.c 15 [(.normal,⟨[e 0 (.list (.st 11)),p 3 1,e 6 (.int .i64),e 18 .bool],[(1,.box none [.one 1 (.st 11)])],2,false⟩)],.c 38 [(.normal,⟨[e 0 (.list (.st 11)),p 3 1,e 6 (.int .i64),e 32 .bool],[(1,.box none [.one 1 (.st 11)])],2,false⟩)],.g 60 [.fz 4],.e 61 (.st 11),.e 65 (.st 11),.e 67 (.st 11),.e 68 (.st 11),.e 72 (.st 11)] [enP (zmc k)] (by kernel_rfl) fun _=>by kernel_rfl
def G44 (k:Nat):GrT×Int×Unit→(Option ((List Int)×Unit)):=fun (a0,a1,_)=>
 (bif (a1==(-(1:Int))) then
  some (([0]:List Int),())
 else
  (at? a0.2.2.2.1 a1).bind fun v0=>
  some (v0.2.1,()))
theorem ziF (k:Nat):FOk (S:=SyS) prog 44 [.val (.st 4),.val (.int .i64)] [.cl (.int .i64)] (G44 k):=FOk.mk (k:=k) [.e 14 (.int .i64),.z 16 4] [] (by kernel_rfl) fun _=>by kernel_rfl
def zmn (k:Nat):LB (Bool×Int×Bool×Int×GrT×(List Bool)×RuT×Unit) (Bool×Int×Bool×GrT×(List Bool)×RuT×Unit):=fun (v9,v10,v11,v12,v13,v14,v15,_)=>
 (bif decide (v12<(v15.2.1.length:Int)) then
  ((bif v11 then
    (at? v15.2.1 v12).bind fun v16=>
    (bif decide (v16≥(0:Int)) then
     (at? v15.2.1 v12).bind fun v17=>
     (at? v14 v17).bind fun v18=>
     (List.get?Internal v14 (Int.toNat v17)).bind fun v19=>
     some (v9,v10,v19,v12,v13,v14,v15,())
    else
     some (v9,v10,false,v12,v13,v14,v15,()))
   else
    some (v9,v10,false,v12,v13,v14,v15,()))).bind fun (v20,v21,v22,v23,v24,v25,v26,_)=>
  some (.inl (v20,v21,v22,(w64 (v23+(1:Int))),v24,v25,v26,()))
 else
  some (.inr (v9,v10,v11,v13,v14,v15,())))
def zmo (k:Nat):LB (Bool×Int×GrT×(List Bool)×Unit) (Bool×GrT×(List Bool)×Unit):=fun (v4,v5,v6,v7,_)=>
 (bif decide (v5<(v6.2.2.2.1.length:Int)) then
  (at? v6.2.2.2.1 v5).bind fun v8=>
  (iter k (zmn k) (v4,v5,true,(0:Int),v6,v7,v8,())).bind fun (v27,v28,v29,v30,v31,v32,_)=>
  ((bif v29 then
    (at? v31 v32.1).bind fun v33=>
    (List.get?Internal v31 (Int.toNat v32.1)).bind fun v34=>
    some (v27,v28,(!v34),v30,v31,v32,())
   else
    some (v27,v28,false,v30,v31,v32,()))).bind fun (v35,v36,v37,v38,v39,v40,_)=>
  ((bif v37 then
    (at? v39 v40.1).bind fun v41=>
    (List.get?Internal v39 (Int.toNat v40.1)).bind fun v42=>
    some (true,v36,v38,(List.set v39 (Int.toNat v40.1) true),())
   else
    some (v35,v36,v38,v39,()))).bind fun (v43,v44,v45,v46,_)=>
  some (.inl (v43,(w64 (v44+(1:Int))),v45,v46,()))
 else
  some (.inr (v4,v6,v7,())))
def zmp (k:Nat):LB (Bool×GrT×(List Bool)×Unit) ((List Bool)×Unit):=fun (v1,v2,v3,_)=>
 (bif v1 then
  (iter k (zmo k) (false,(0:Int),v2,v3,())).bind fun (v47,v48,v49,_)=>
  some (.inl (v47,v48,v49,()))
 else
  some (.inr (v3,())))
def G94 (k:Nat):GrT×Unit→(Option ((List Bool)×Unit)):=fun (a0,_)=>
 (mkS 1 (a0.2.1.length:Int)).bind fun v0=>
 (iter k (zmp k) (true,a0,(List.replicate v0 false),())).bind fun (v50,_)=>
 some (v50,())
theorem ziB (k:Nat):FOk (S:=SyS) prog 94 [.val (.st 4)] [.own .bool] (G94 k):=FOk.mk (k:=k) [.l ⟨[p 1 1,(3,.b (.whole 2)),e 4 .bool],[(1,.box none [.one 1 (.st 4)]),(2,.row 1 .bool)],3,false⟩ [(.exit 0,⟨[(3,.b (.whole 1))],[(1,.row 1 .bool)],2,false⟩)],.l ⟨[p 1 1,(3,.b (.whole 2)),e 4 .bool,e 5 (.int .i64)],[(1,.box none [.one 1 (.st 4)]),(2,.row 1 .bool)],3,false⟩ [(.exit 2,⟨[p 1 1,(3,.b (.whole 2)),e 4 .bool],[(1,.box none [.one 1 (.st 4)]),(2,.row 1 .bool)],3,false⟩)],.l ⟨[p 1 1,(3,.b (.whole 2)),e 4 .bool,e 5 (.int .i64),p 6 3,e 7 .bool,e 8 (.int .i64)],[(1,.box none [.one 1 (.st 4)]),(2,.row 1 .bool),(3,.box none [.one 1 (.st 3)])],4,false⟩ [(.exit 4,⟨[p 1 1,(3,.b (.whole 2)),e 4 .bool,e 5 (.int .i64),p 6 3,e 7 .bool],[(1,.box none [.one 1 (.st 4)]),(2,.row 1 .bool),(3,.box none [.one 1 (.st 3)])],4,false⟩)],.c 82 [(.normal,⟨[p 1 1,(3,.b (.whole 2)),e 4 .bool,e 5 (.int .i64),p 6 3,e 7 .bool,e 8 (.int .i64)],[(1,.box none [.one 1 (.st 4)]),(2,.row 1 .bool),(3,.box none [.one 1 (.st 3)])],4,false⟩)],.c 110 [(.normal,⟨[p 1 1,(3,.b (.whole 2)),e 4 .bool,e 5 (.int .i64),p 6 3,e 60 .bool],[(1,.box none [.one 1 (.st 4)]),(2,.row 1 .bool),(3,.box none [.one 1 (.st 3)])],4,false⟩)],.c 121 [(.normal,⟨[p 1 1,(3,.b (.whole 2)),e 4 .bool,e 5 (.int .i64)],[(1,.box none [.one 1 (.st 4)]),(2,.row 1 .bool)],3,false⟩)]] [] (by kernel_rfl) fun _=>by kernel_rfl
def zmu (k:Nat):LB (Bool×Int×GrT×(List Bool)×(List (List Bool))×Unit) (Bool×GrT×(List Bool)×(List (List Bool))×Unit):=fun (v2,v3,v4,v5,v6,_)=>
 (bif decide (v3<(v6.length:Int)) then
  (mkS 1 (v4.1.length:Int)).bind fun v7=>
  (at? v6 v3).bind fun v8=>
  (List.get?Internal v6 (Int.toNat v3)).bind fun v9=>
  some (.inl (v2,(w64 (v3+(1:Int))),v4,v5,(List.set v6 (Int.toNat v3) (List.replicate v7 false)),()))
 else
  some (.inr (v2,v4,v5,v6,())))
def zmq (k:Nat):LB (Bool×Bool×Int×Int×Int×Int×GrT×(List Bool)×(List (List Bool))×RuT×Unit) (Bool×Bool×Int×Int×Int×GrT×(List Bool)×(List (List Bool))×RuT×Unit):=fun (v45,v46,v47,v48,v49,v50,v51,v52,v53,v54,_)=>
 (bif decide (v50<(v51.1.length:Int)) then
  ((bif (v49==(w64 ((-(1:Int))-v50))) then
    (at? v53 v54.1).bind fun v55=>
    (List.get?Internal v53 (Int.toNat v54.1)).bind fun v56=>
    (List.get?Internal v53 (Int.toNat v54.1)).bind fun v57=>
    (at? v57 v50).bind fun v58=>
    (List.get?Internal v53 (Int.toNat v54.1)).bind fun v59=>
    (List.get?Internal v59 (Int.toNat v50)).bind fun v60=>
    some (v45,v46,v47,v48,v49,v50,(!v60),v51,v52,v53,v54,())
   else
    (bif decide (v49≥(0:Int)) then
     (at? v53 v49).bind fun v61=>
     (List.get?Internal v53 (Int.toNat v49)).bind fun v62=>
     (List.get?Internal v53 (Int.toNat v49)).bind fun v63=>
     (at? v63 v50).bind fun v64=>
     (List.get?Internal v53 (Int.toNat v49)).bind fun v65=>
     (List.get?Internal v65 (Int.toNat v50)).bind fun v66=>
     (bif v66 then
      (at? v53 v54.1).bind fun v67=>
      (List.get?Internal v53 (Int.toNat v54.1)).bind fun v68=>
      (List.get?Internal v53 (Int.toNat v54.1)).bind fun v69=>
      (at? v69 v50).bind fun v70=>
      (List.get?Internal v53 (Int.toNat v54.1)).bind fun v71=>
      (List.get?Internal v71 (Int.toNat v50)).bind fun v72=>
      some (v45,v46,v47,v48,v49,v50,(!v72),v51,v52,v53,v54,())
     else
      some (v45,v46,v47,v48,v49,v50,false,v51,v52,v53,v54,()))
    else
     some (v45,v46,v47,v48,v49,v50,false,v51,v52,v53,v54,())))).bind fun (v73,v74,v75,v76,v77,v78,v79,v80,v81,v82,v83,_)=>
  ((bif v79 then
    (at? v82 v83.1).bind fun v84=>
    (List.get?Internal v82 (Int.toNat v83.1)).bind fun v85=>
    (List.get?Internal v82 (Int.toNat v83.1)).bind fun v86=>
    (at? v86 v78).bind fun v87=>
    (List.get?Internal v82 (Int.toNat v83.1)).bind fun v88=>
    (List.get?Internal v88 (Int.toNat v78)).bind fun v89=>
    some (v73,true,v75,v76,v77,v78,v80,v81,(List.set v82 (Int.toNat v83.1) (List.set v88 (Int.toNat v78) true)),v83,())
   else
    some (v73,v74,v75,v76,v77,v78,v80,v81,v82,v83,()))).bind fun (v90,v91,v92,v93,v94,v95,v96,v97,v98,v99,_)=>
  some (.inl (v90,v91,v92,v93,v94,(w64 (v95+(1:Int))),v96,v97,v98,v99,()))
 else
  some (.inr (v45,v46,v47,v48,v49,v51,v52,v53,v54,())))
def zmr (k:Nat):LB (Bool×Bool×Int×Int×GrT×(List Bool)×(List (List Bool))×RuT×Unit) (Bool×Bool×Int×GrT×(List Bool)×(List (List Bool))×Unit):=fun (v26,v27,v28,v29,v30,v31,v32,v33,_)=>
 (bif decide (v29<(v33.2.1.length:Int)) then
  (at? v33.2.1 v29).bind fun v34=>
  ((bif (!v26) then
    (at? v33.2.1 (w64 ((w64 ((v33.2.1.length:Int)-(1:Int)))-v29))).bind fun v35=>
    some (v26,v27,v28,v29,v35,v30,v31,v32,v33,())
   else
    some (v26,v27,v28,v29,v34,v30,v31,v32,v33,()))).bind fun (v36,v37,v38,v39,v40,v41,v42,v43,v44,_)=>
  (iter k (zmq k) (v36,v37,v38,v39,v40,(0:Int),v41,v42,v43,v44,())).bind fun (v100,v101,v102,v103,v104,v105,v106,v107,v108,_)=>
  ((bif decide (v104<(0:Int)) then
    some (v100,v101,v102,v103,true,v105,v106,v107,v108,())
   else
    (at? v106 v104).bind fun v109=>
    (List.get?Internal v106 (Int.toNat v104)).bind fun v110=>
    some (v100,v101,v102,v103,(!v110),v105,v106,v107,v108,()))).bind fun (v111,v112,v113,v114,v115,v116,v117,v118,v119,_)=>
  (bif v115 then
   some (.inr (v111,v112,v113,v116,v117,v118,()))
  else
   some (.inl (v111,v112,v113,(w64 (v114+(1:Int))),v116,v117,v118,v119,())))
 else
  some (.inr (v26,v27,v28,v30,v31,v32,())))
def zms (k:Nat):LB (Bool×Bool×Int×GrT×(List Bool)×(List (List Bool))×Unit) (Bool×Bool×GrT×(List Bool)×(List (List Bool))×Unit):=fun (v19,v20,v21,v22,v23,v24,_)=>
 (bif decide (v21<(v22.2.2.2.1.length:Int)) then
  (at? v22.2.2.2.1 v21).bind fun v25=>
  (iter k (zmr k) (v19,v20,v21,(0:Int),v22,v23,v24,v25,())).bind fun (v120,v121,v122,v123,v124,v125,_)=>
  some (.inl (v120,v121,(w64 (v122+(1:Int))),v123,v124,v125,()))
 else
  some (.inr (v19,v20,v22,v23,v24,())))
def zmt (k:Nat):LB (Bool×Bool×GrT×(List Bool)×(List (List Bool))×Unit) ((List (List Bool))×Unit):=fun (v14,v15,v16,v17,v18,_)=>
 (bif v15 then
  (iter k (zms k) (v14,false,(0:Int),v16,v17,v18,())).bind fun (v126,v127,v128,v129,v130,_)=>
  some (.inl (v126,v127,v128,v129,v130,()))
 else
  some (.inr (v18,())))
def G93 (k:Nat):GrT×Bool×Unit→(Option ((List (List Bool))×Unit)):=fun (a0,a1,_)=>
 (G94 k (a0,())).bind fun (v0,_)=>
 (mkS 24 (a0.2.1.length:Int)).bind fun v1=>
 (iter k (zmu k) (a1,(0:Int),a0,v0,(List.replicate v1 ([]:List Bool)),())).bind fun (v10,v11,v12,v13,_)=>
 (iter k (zmt k) (v10,true,v11,v12,v13,())).bind fun (v131,_)=>
 some (v131,())
theorem zgD (k:Nat):FOk (S:=SyS) prog 93 [.val (.st 4),.val (.bool)] [.own (.list .bool)] (G93 k):=FOk.mk (k:=k) [.e 16 (.own .bool),.l ⟨[e 1 .bool,p 2 1,(5,.b (.whole 2)),(6,.b (.whole 3)),e 7 (.int .i64)],[(1,.box none [.one 1 (.st 4)]),(2,.row 1 .bool),(3,.row 1 (.own .bool))],4,false⟩ [(.exit 0,⟨[e 1 .bool,p 2 1,(5,.b (.whole 2)),(6,.b (.whole 3))],[(1,.box none [.one 1 (.st 4)]),(2,.row 1 .bool),(3,.row 1 (.own .bool))],4,false⟩)],.e 45 (.own .bool),.l ⟨[e 1 .bool,p 2 1,(5,.b (.whole 2)),(6,.b (.whole 3)),e 8 .bool],[(1,.box none [.one 1 (.st 4)]),(2,.row 1 .bool),(3,.row 1 (.own .bool))],4,false⟩ [(.exit 2,⟨[(6,.b (.whole 1))],[(1,.row 1 (.own .bool))],2,false⟩)],.l ⟨[e 1 .bool,p 2 1,(5,.b (.whole 2)),(6,.b (.whole 3)),e 8 .bool,e 9 (.int .i64)],[(1,.box none [.one 1 (.st 4)]),(2,.row 1 .bool),(3,.row 1 (.own .bool))],4,false⟩ [(.exit 4,⟨[e 1 .bool,p 2 1,(5,.b (.whole 2)),(6,.b (.whole 3)),e 8 .bool],[(1,.box none [.one 1 (.st 4)]),(2,.row 1 .bool),(3,.row 1 (.own .bool))],4,false⟩)],.l ⟨[e 1 .bool,p 2 1,(5,.b (.whole 2)),(6,.b (.whole 3)),e 8 .bool,e 9 (.int .i64),p 10 4,e 11 (.int .i64)],[(1,.box none [.one 1 (.st 4)]),(2,.row 1 .bool),(3,.row 1 (.own .bool)),(4,.box none [.one 1 (.st 3)])],5,false⟩ [(.exit 6,⟨[e 1 .bool,p 2 1,(5,.b (.whole 2)),(6,.b (.whole 3)),e 8 .bool,e 9 (.int .i64)],[(1,.box none [.one 1 (.st 4)]),(2,.row 1 .bool),(3,.row 1 (.own .bool))],4,false⟩)],.c 131 [(.normal,⟨[e 1 .bool,p 2 1,(5,.b (.whole 2)),(6,.b (.whole 3)),e 8 .bool,e 9 (.int .i64),p 10 4,e 11 (.int .i64),e 12 (.int .i64)],[(1,.box none [.one 1 (.st 4)]),(2,.row 1 .bool),(3,.row 1 (.own .bool)),(4,.box none [.one 1 (.st 3)])],5,false⟩)],.l ⟨[e 1 .bool,p 2 1,(5,.b (.whole 2)),(6,.b (.whole 3)),e 8 .bool,e 9 (.int .i64),p 10 4,e 11 (.int .i64),e 12 (.int .i64),e 13 (.int .i64)],[(1,.box none [.one 1 (.st 4)]),(2,.row 1 .bool),(3,.row 1 (.own .bool)),(4,.box none [.one 1 (.st 3)])],5,false⟩ [(.exit 8,⟨[e 1 .bool,p 2 1,(5,.b (.whole 2)),(6,.b (.whole 3)),e 8 .bool,e 9 (.int .i64),p 10 4,e 11 (.int .i64),e 12 (.int .i64)],[(1,.box none [.one 1 (.st 4)]),(2,.row 1 .bool),(3,.row 1 (.own .bool)),(4,.box none [.one 1 (.st 3)])],5,false⟩)],.c 165 [(.normal,⟨[e 1 .bool,p 2 1,(5,.b (.whole 2)),(6,.b (.whole 3)),e 8 .bool,e 9 (.int .i64),p 10 4,e 11 (.int .i64),e 12 (.int .i64),e 13 (.int .i64),e 104 .bool],[(1,.box none [.one 1 (.st 4)]),(2,.row 1 .bool),(3,.row 1 (.own .bool)),(4,.box none [.one 1 (.st 3)])],5,false⟩)],.c 195 [(.normal,⟨[e 1 .bool,p 2 1,(5,.b (.whole 2)),(6,.b (.whole 3)),e 8 .bool,e 9 (.int .i64),p 10 4,e 11 (.int .i64),e 12 (.int .i64),e 13 (.int .i64)],[(1,.box none [.one 1 (.st 4)]),(2,.row 1 .bool),(3,.row 1 (.own .bool)),(4,.box none [.one 1 (.st 3)])],5,false⟩)],.c 213 [(.normal,⟨[e 1 .bool,p 2 1,(5,.b (.whole 2)),(6,.b (.whole 3)),e 8 .bool,e 9 (.int .i64),p 10 4,e 11 (.int .i64),e 120 .bool],[(1,.box none [.one 1 (.st 4)]),(2,.row 1 .bool),(3,.row 1 (.own .bool)),(4,.box none [.one 1 (.st 3)])],5,false⟩)]] [enP (ziB k)] (by kernel_rfl) fun _=>by kernel_rfl
def zmv (k:Nat):LB ((List (List Bool))×Int×Int×(List (List Int))×Unit) ((List (List Bool))×Int×(List (List Int))×Unit):=fun (v4,v5,v6,v7,_)=>
 (at? v4 v5).bind fun v8=>
 (bif decide (v6<(v8.length:Int)) then
  (at? v4 v5).bind fun v9=>
  (at? v9 v6).bind fun v10=>
  ((bif v10 then
    (at? v7 v5).bind fun v11=>
    (List.get?Internal v7 (Int.toNat v5)).bind fun v12=>
    (at? v7 v5).bind fun v13=>
    (bif (Nat.beq (Int.toNat v5) (Int.toNat v5)) then
     room ((List.length v13)+(List.length ([v6]:List Int))) 8 (some (v4,v5,v6,(List.set v7 (Int.toNat v5) (v13++([v6]:List Int))),()))
    else
     (Option.none))
   else
    some (v4,v5,v6,v7,()))).bind fun (v14,v15,v16,v17,_)=>
  some (.inl (v14,v15,(w64 (v16+(1:Int))),v17,()))
 else
  some (.inr (v4,v5,v7,())))
def zmw (k:Nat):LB ((List (List Bool))×Int×(List (List Int))×Unit) ((List (List Int))×Unit):=fun (v1,v2,v3,_)=>
 (bif decide (v2<(v1.length:Int)) then
  (iter k (zmv k) (v1,v2,(0:Int),v3,())).bind fun (v18,v19,v20,_)=>
  some (.inl (v18,(w64 (v19+(1:Int))),v20,()))
 else
  some (.inr (v3,())))
def G92 (k:Nat):List (List Bool)×Unit→(Option ((List (List Int))×Unit)):=fun (a0,_)=>
 (mkS 24 (a0.length:Int)).bind fun v0=>
 (iter k (zmw k) (a0,(0:Int),(List.replicate v0 ([]:List Int)),())).bind fun (v21,_)=>
 some (v21,())
theorem ziC (k:Nat):HOk (S:=SyS) prog 92 zlA zlz (G92 k):=HOk.mk (k:=k) [.e 8 (.own (.int .i64)),.l ⟨[(0,.b (.one 4 (.list (.list .bool)))),(3,.b (.whole 1)),e 4 (.int .i64)],[(1,.row 1 (.own (.int .i64)))],2,true⟩ [(.exit 0,⟨[(3,.b (.whole 1))],[(1,.row 1 (.own (.int .i64)))],2,true⟩)],.l ⟨[(0,.b (.one 4 (.list (.list .bool)))),(3,.b (.whole 1)),e 4 (.int .i64),e 5 (.int .i64)],[(1,.row 1 (.own (.int .i64)))],2,true⟩ [(.exit 2,⟨[(0,.b (.one 4 (.list (.list .bool)))),(3,.b (.whole 1)),e 4 (.int .i64)],[(1,.row 1 (.own (.int .i64)))],2,true⟩)],.c 59 [(.normal,⟨[(0,.b (.one 4 (.list (.list .bool)))),(3,.b (.whole 1)),e 4 (.int .i64),e 5 (.int .i64)],[(1,.row 1 (.own (.int .i64)))],2,true⟩)],.e 68 (.int .i64),.n 69 (.int .i64)] [] (by kernel_rfl) (by kernel_rfl) fun _=>by kernel_rfl
def zmx (k:Nat):LB ((List Int)×Int×Int×Int×Int×GrT×(List Bool)×(List (List Bool))×(List Bool)×Unit) ((List Int)×Int×Int×Int×GrT×(List Bool)×(List (List Bool))×(List Bool)×Unit):=fun (v21,v22,v23,v24,v25,v26,v27,v28,v29,_)=>
 (bif decide (v25<(v26.1.length:Int)) then
  ((at? v29 v25).bind fun v30=>
   (List.get?Internal v29 (Int.toNat v25)).bind fun v31=>
   (bif v31 then
    (at? v29 v25).bind fun v32=>
    (List.get?Internal v29 (Int.toNat v25)).bind fun v33=>
    some (v21,v22,v23,v24,v25,v26,v27,v28,(List.set v29 (Int.toNat v25) true),())
   else
    (bif (v24==(w64 ((-(1:Int))-v25))) then
     (at? v29 v25).bind fun v34=>
     (List.get?Internal v29 (Int.toNat v25)).bind fun v35=>
     some (v21,v22,v23,v24,v25,v26,v27,v28,(List.set v29 (Int.toNat v25) true),())
    else
     (bif decide (v24≥(0:Int)) then
      (at? v28 v24).bind fun v36=>
      (List.get?Internal v28 (Int.toNat v24)).bind fun v37=>
      (at? v37 v25).bind fun v38=>
      (at? v29 v25).bind fun v39=>
      (List.get?Internal v29 (Int.toNat v25)).bind fun v40=>
      some (v21,v22,v23,v24,v25,v26,v27,v28,(List.set v29 (Int.toNat v25) v38),())
     else
      (at? v29 v25).bind fun v41=>
      (List.get?Internal v29 (Int.toNat v25)).bind fun v42=>
      some (v21,v22,v23,v24,v25,v26,v27,v28,(List.set v29 (Int.toNat v25) false),()))))).bind fun (v43,v44,v45,v46,v47,v48,v49,v50,v51,_)=>
  some (.inl (v43,v44,v45,v46,(w64 (v47+(1:Int))),v48,v49,v50,v51,()))
 else
  some (.inr (v21,v22,v23,v24,v26,v27,v28,v29,())))
def zmy (k:Nat):LB ((List Int)×Int×Bool×Int×GrT×(List Bool)×(List (List Bool))×(List Bool)×Unit) (Int×Bool×(List Bool)×Unit):=fun (v3,v4,v5,v6,v7,v8,v9,v10,_)=>
 ((bif decide (v6<(v3.length:Int)) then
   some (v3,v4,v5,v6,v5,v7,v8,v9,v10,())
  else
   some (v3,v4,v5,v6,false,v7,v8,v9,v10,()))).bind fun (v11,v12,v13,v14,v15,v16,v17,v18,v19,_)=>
 (bif v15 then
  (at? v11 v14).bind fun v20=>
  (iter k (zmx k) (v11,v12,v14,v20,(0:Int),v16,v17,v18,v19,())).bind fun (v52,v53,v54,v55,v56,v57,v58,v59,_)=>
  ((bif decide (v55≥(0:Int)) then
    (at? v57 v55).bind fun v60=>
    (List.get?Internal v57 (Int.toNat v55)).bind fun v61=>
    some (v52,v53,v61,v54,v56,v57,v58,v59,())
   else
    some (v52,v53,false,v54,v56,v57,v58,v59,()))).bind fun (v62,v63,v64,v65,v66,v67,v68,v69,_)=>
  some (.inl (v62,v63,v64,(w64 (v65+(1:Int))),v66,v67,v68,v69,()))
 else
  some (.inr (v12,v13,v19,())))
def G91 (k:Nat):GrT×(List Int)×Int×Unit→(Option ((List Int)×Unit)):=fun (a0,a1,a2,_)=>
 (G94 k (a0,())).bind fun (v0,_)=>
 (G93 k (a0,true,())).bind fun (v1,_)=>
 (mkS 1 (a0.1.length:Int)).bind fun v2=>
 (iter k (zmy k) (a1,a2,true,(0:Int),a0,v0,v1,(List.replicate v2 false),())).bind fun (v70,v71,v72,_)=>
 ((bif v71 then
   (bif decide (v70≥(0:Int)) then
    some (v70,v71,decide (v70<(v72.length:Int)),v72,())
   else
    some (v70,v71,false,v72,()))
  else
   some (v70,v71,false,v72,()))).bind fun (v73,v74,v75,v76,_)=>
 ((bif v75 then
   (at? v76 v73).bind fun v77=>
   (List.get?Internal v76 (Int.toNat v73)).bind fun v78=>
   some (v73,v74,(List.set v76 (Int.toNat v73) true),())
  else
   some (v73,v74,v76,()))).bind fun (v79,v80,v81,_)=>
 (G92 k (([v81]:List (List Bool)),())).bind fun (v82,_)=>
 (at? v82 (0:Int)).bind fun v83=>
 (List.get?Internal v82 (Int.toNat (0:Int))).bind fun v84=>
 (List.get?Internal v82 (Int.toNat (0:Int))).bind fun v85=>
 ((bif v80 then
   some ((v79==(1000:Int)),v85,())
  else
   some (false,v85,()))).bind fun (v86,v87,_)=>
 ((bif v86 then
   room ((List.length v87)+(List.length ([1000]:List Int))) 8 (some ((v87++([1000]:List Int)),()))
  else
   some (v87,()))).bind fun (v88,_)=>
 some (v88,())
theorem zon (k:Nat):FOk (S:=SyS) prog 91 [.val (.st 4),.val (.list (.int .i64)),.val (.int .i64)] [.own (.int .i64)] (G91 k):=FOk.mk (k:=k) [.l ⟨[e 1 (.list (.int .i64)),e 2 (.int .i64),p 3 1,(7,.b (.whole 2)),(8,.b (.whole 3)),(9,.b (.whole 4)),e 10 .bool,e 11 (.int .i64)],[(1,.box none [.one 1 (.st 4)]),(2,.row 1 .bool),(3,.row 1 (.list .bool)),(4,.row 1 .bool)],5,false⟩ [(.exit 0,⟨[e 2 (.int .i64),(9,.b (.whole 1)),e 10 .bool],[(1,.row 1 .bool)],2,false⟩)],.c 35 [(.normal,⟨[e 1 (.list (.int .i64)),e 2 (.int .i64),p 3 1,(7,.b (.whole 2)),(8,.b (.whole 3)),(9,.b (.whole 4)),e 10 .bool,e 11 (.int .i64),e 29 .bool],[(1,.box none [.one 1 (.st 4)]),(2,.row 1 .bool),(3,.row 1 (.list .bool)),(4,.row 1 .bool)],5,false⟩)],.l ⟨[e 1 (.list (.int .i64)),e 2 (.int .i64),p 3 1,(7,.b (.whole 2)),(8,.b (.whole 3)),(9,.b (.whole 4)),e 11 (.int .i64),e 12 (.int .i64),e 13 (.int .i64)],[(1,.box none [.one 1 (.st 4)]),(2,.row 1 .bool),(3,.row 1 (.list .bool)),(4,.row 1 .bool)],5,false⟩ [(.exit 2,⟨[e 1 (.list (.int .i64)),e 2 (.int .i64),p 3 1,(7,.b (.whole 2)),(8,.b (.whole 3)),(9,.b (.whole 4)),e 11 (.int .i64),e 12 (.int .i64)],[(1,.box none [.one 1 (.st 4)]),(2,.row 1 .bool),(3,.row 1 (.list .bool)),(4,.row 1 .bool)],5,false⟩)],.c 74 [(.normal,⟨[e 1 (.list (.int .i64)),e 2 (.int .i64),p 3 1,(7,.b (.whole 2)),(8,.b (.whole 3)),(9,.b (.whole 4)),e 11 (.int .i64),e 12 (.int .i64),e 13 (.int .i64)],[(1,.box none [.one 1 (.st 4)]),(2,.row 1 .bool),(3,.row 1 (.list .bool)),(4,.row 1 .bool)],5,false⟩)],.c 108 [(.normal,⟨[e 1 (.list (.int .i64)),e 2 (.int .i64),p 3 1,(7,.b (.whole 2)),(8,.b (.whole 3)),(9,.b (.whole 4)),e 10 .bool,e 11 (.int .i64)],[(1,.box none [.one 1 (.st 4)]),(2,.row 1 .bool),(3,.row 1 (.list .bool)),(4,.row 1 .bool)],5,false⟩)],.c 126 [(.normal,⟨[e 2 (.int .i64),(9,.b (.whole 1)),e 10 .bool,e 87 .bool],[(1,.row 1 .bool)],2,false⟩)],.c 139 [(.normal,⟨[e 2 (.int .i64),(9,.b (.whole 1)),e 10 .bool],[(1,.row 1 .bool)],2,false⟩)],.z 149 91,.e 149 (.list .bool),.z 150 92,.h ⟨[],⟨[(0,.b (.whole 3))],[(3,.row 1 (.own (.int .i64)))],4,true⟩⟩,.u 154 14,.c 157 [(.normal,⟨[(14,.b (.whole 1)),e 100 .bool],[(1,.row 1 (.int .i64))],2,true⟩)],.c 164 [(.normal,⟨[(14,.b (.whole 1))],[(1,.row 1 (.int .i64))],2,true⟩)],.e 167 (.int .i64),.e 168 (.int .i64),.u 170 14] [enP (ziB k),enP (zgD k),enH (ziC k)] (by kernel_rfl) fun _=>by kernel_rfl
def zmX (k:Nat):LB ((List za)×(List za)×Int×GrT×Unit) ((List za)×GrT×Unit):=fun (v0,v1,v2,v3,_)=>
 (bif decide (v2<(v0.length:Int)) then
  (at? v0 v2).bind fun v4=>
  (G90 k (v1,v4,())).bind fun (v5,v6,_)=>
  some (.inl (v0,v5,(w64 (v2+(1:Int))),v3,()))
 else
  some (.inr (v1,v3,())))
def zmT (k:Nat):LB ((List za)×Bool×(List za)×Int×(List Int)×Int×Int×GrT×(List Int)×Unit) ((List za)×Bool×(List za)×Int×(List Int)×Int×GrT×(List Int)×Unit):=fun (v41,v42,v43,v44,v45,v46,v47,v48,v49,_)=>
 ((bif decide (v47<(v49.length:Int)) then
   (at? v48.2.2.2.1 v46).bind fun v50=>
   (at? v43 v44).bind fun v51=>
   (at? v45 v51.2.1).bind fun v52=>
   some (v41,v42,v43,v44,v45,v46,v47,(v50.1==v52),v48,v49,())
  else
   some (v41,v42,v43,v44,v45,v46,v47,false,v48,v49,()))).bind fun (v53,v54,v55,v56,v57,v58,v59,v60,v61,v62,_)=>
 (bif v60 then
  (at? v62 v59).bind fun v63=>
  (List.get?Internal v62 (Int.toNat v59)).bind fun v64=>
  (G90 k (v53,(v58,(0:Int),v64,()),())).bind fun (v65,v66,_)=>
  ((bif v54 then
    some (v65,true,v55,v56,v57,v58,v59,v61,v62,())
   else
    some (v65,v66,v55,v56,v57,v58,v59,v61,v62,()))).bind fun (v67,v68,v69,v70,v71,v72,v73,v74,v75,_)=>
  some (.inl (v67,v68,v69,v70,v71,v72,(w64 (v73+(1:Int))),v74,v75,()))
 else
  some (.inr (v53,v54,v55,v56,v57,v58,v61,v62,())))
def zmU (k:Nat):LB ((List za)×Bool×(List za)×Int×(List Int)×Int×GrT×(List Int)×Unit) ((List za)×Bool×(List za)×Int×GrT×Unit):=fun (v33,v34,v35,v36,v37,v38,v39,v40,_)=>
 (bif decide (v38<(v39.2.2.2.1.length:Int)) then
  (iter k (zmT k) (v33,v34,v35,v36,v37,v38,(0:Int),v39,v40,())).bind fun (v76,v77,v78,v79,v80,v81,v82,v83,_)=>
  some (.inl (v76,v77,v78,v79,v80,(w64 (v81+(1:Int))),v82,v83,()))
 else
  some (.inr (v33,v34,v35,v36,v39,())))
def zmV (k:Nat):LB ((List za)×Bool×(List za)×Int×GrT×Unit) ((List za)×Bool×GrT×Unit):=fun (v12,v13,v14,v15,v16,_)=>
 (bif decide (v15<(v14.length:Int)) then
  ((at? v14 v15).bind fun v17=>
   (G44 k (v16,v17.1,())).bind fun (v18,_)=>
   ((at? v14 v15).bind fun v19=>
    (bif decide (v19.2.1≥(v18.length:Int)) then
     some (v12,v13,v14,v15,v18,true,v16,())
    else
     (at? v14 v15).bind fun v20=>
     (at? v18 v20.2.1).bind fun v21=>
     some (v12,v13,v14,v15,v18,decide (v21<(0:Int)),v16,()))).bind fun (v22,v23,v24,v25,v26,v27,v28,_)=>
   (bif v27 then
    some (v22,v23,v24,v25,v28,())
   else
    (at? v24 v25).bind fun v29=>
    (hi? (List.length v26) (w64 (v29.2.1+(1:Int)))).bind fun v30=>
    (at? v24 v25).bind fun v31=>
    (G91 k (v28,(slC (Option.some (w64 (v29.2.1+(1:Int)))) (Option.none) v30 (List.length v26) v26),v31.2.2.1,())).bind fun (v32,_)=>
    (iter k (zmU k) (v22,v23,v24,v25,v26,(0:Int),v28,v32,())).bind fun (v84,v85,v86,v87,v88,_)=>
    some (v84,v85,v86,v87,v88,()))).bind fun (v89,v90,v91,v92,v93,_)=>
  some (.inl (v89,v90,v91,(w64 (v92+(1:Int))),v93,()))
 else
  some (.inr (v12,v13,v16,())))
def zmW (k:Nat):LB ((List za)×Bool×GrT×Unit) ((List za)×Unit):=fun (v9,v10,v11,_)=>
 (bif v10 then
  (iter k (zmV k) (v9,false,v9,(0:Int),v11,())).bind fun (v94,v95,v96,_)=>
  some (.inl (v94,v95,v96,()))
 else
  some (.inr (v9,())))
def G70 (k:Nat):GrT×(List za)×Unit→(Option ((List za)×Unit)):=fun (a0,a1,_)=>
 (iter k (zmX k) (a1,([]:List za),(0:Int),a0,())).bind fun (v7,v8,_)=>
 (iter k (zmW k) (v7,true,v8,())).bind fun (v97,_)=>
 some (v97,())
theorem zkQ (k:Nat):FOk (S:=SyS) prog 70 [.val (.st 4),.val (.list (.st 11))] [.cl (.st 11)] (G70 k):=FOk.mk (k:=k) [.l ⟨[e 1 (.list (.st 11)),p 2 1,(5,.b (.one 2 (.list (.st 11)))),e 6 (.int .i64)],[(1,.box none [.one 1 (.st 4)])],2,true⟩ [(.exit 0,⟨[p 2 1,(5,.b (.one 2 (.list (.st 11))))],[(1,.box none [.one 1 (.st 4)])],2,true⟩)],.l ⟨[p 2 1,(5,.b (.one 2 (.list (.st 11)))),e 7 .bool],[(1,.box none [.one 1 (.st 4)])],2,true⟩ [(.exit 2,⟨[(5,.b (.one 2 (.list (.st 11))))],[],1,true⟩)],.l ⟨[p 2 1,(5,.b (.one 2 (.list (.st 11)))),e 7 .bool,(8,.b (.one 2 (.list (.st 11)))),e 9 (.int .i64)],[(1,.box none [.one 1 (.st 4)])],2,true⟩ [(.exit 4,⟨[p 2 1,(5,.b (.one 2 (.list (.st 11)))),e 7 .bool],[(1,.box none [.one 1 (.st 4)])],2,true⟩)],.c 83 [(.normal,⟨[p 2 1,(5,.b (.one 2 (.list (.st 11)))),e 7 .bool,(8,.b (.one 2 (.list (.st 11)))),e 9 (.int .i64)],[(1,.box none [.one 1 (.st 4)])],2,true⟩)],.c 97 [(.normal,⟨[p 2 1,(5,.b (.one 2 (.list (.st 11)))),e 7 .bool,(8,.b (.one 2 (.list (.st 11)))),e 9 (.int .i64),(10,.b (.one 2 (.list (.int .i64)))),e 63 .bool],[(1,.box none [.one 1 (.st 4)])],2,true⟩)],.l ⟨[p 2 1,(5,.b (.one 2 (.list (.st 11)))),e 7 .bool,(8,.b (.one 2 (.list (.st 11)))),e 9 (.int .i64),(10,.b (.one 2 (.list (.int .i64)))),(11,.b (.whole 2)),e 12 (.int .i64)],[(1,.box none [.one 1 (.st 4)]),(2,.row 1 (.int .i64))],3,true⟩ [(.exit 6,⟨[p 2 1,(5,.b (.one 2 (.list (.st 11)))),e 7 .bool,(8,.b (.one 2 (.list (.st 11)))),e 9 (.int .i64)],[(1,.box none [.one 1 (.st 4)])],2,true⟩)],.l ⟨[p 2 1,(5,.b (.one 2 (.list (.st 11)))),e 7 .bool,(8,.b (.one 2 (.list (.st 11)))),e 9 (.int .i64),(10,.b (.one 2 (.list (.int .i64)))),(11,.b (.whole 2)),e 12 (.int .i64),e 13 (.int .i64)],[(1,.box none [.one 1 (.st 4)]),(2,.row 1 (.int .i64))],3,true⟩ [(.exit 8,⟨[p 2 1,(5,.b (.one 2 (.list (.st 11)))),e 7 .bool,(8,.b (.one 2 (.list (.st 11)))),e 9 (.int .i64),(10,.b (.one 2 (.list (.int .i64)))),(11,.b (.whole 2)),e 12 (.int .i64)],[(1,.box none [.one 1 (.st 4)]),(2,.row 1 (.int .i64))],3,true⟩)],.c 164 [(.normal,⟨[p 2 1,(5,.b (.one 2 (.list (.st 11)))),e 7 .bool,(8,.b (.one 2 (.list (.st 11)))),e 9 (.int .i64),(10,.b (.one 2 (.list (.int .i64)))),(11,.b (.whole 2)),e 12 (.int .i64),e 13 (.int .i64),e 106 .bool],[(1,.box none [.one 1 (.st 4)]),(2,.row 1 (.int .i64))],3,true⟩)],.c 210 [(.normal,⟨[p 2 1,(5,.b (.one 2 (.list (.st 11)))),e 7 .bool,(8,.b (.one 2 (.list (.st 11)))),e 9 (.int .i64),(10,.b (.one 2 (.list (.int .i64)))),(11,.b (.whole 2)),e 12 (.int .i64),e 13 (.int .i64)],[(1,.box none [.one 1 (.st 4)]),(2,.row 1 (.int .i64))],3,true⟩)]] [enP (zoo k),enP (ziF k),enP (zon k)] (by kernel_rfl) fun _=>by kernel_rfl
def G71 (k:Nat):GrT×Int×Unit→(Option (Int×Unit)):=fun (a0,a1,_)=>
 (bif decide (a1<(a0.1.length:Int)) then
  some ((w64 ((-(1:Int))-a1)),())
 else
  some ((w64 (a1-(a0.1.length:Int))),()))
theorem zoD (k:Nat):FOk (S:=SyS) prog 71 [.val (.st 4),.val (.int .i64)] [.val (.int .i64)] (G71 k):=FOk.mk (k:=k) [] [] (by kernel_rfl) fun _=>by kernel_rfl
def znp (k:Nat):LB ((List za)×Int×Int×GrT×(List za)×Unit) (GrT×(List za)×Unit):=fun (v0,v1,v2,v3,v4,_)=>
 (bif decide (v2<(v0.length:Int)) then
  (at? v0 v2).bind fun v5=>
  (G44 k (v3,v5.1,())).bind fun (v6,_)=>
  ((at? v0 v2).bind fun v7=>
   (bif decide (v7.2.1<(v6.length:Int)) then
    (at? v0 v2).bind fun v8=>
    (at? v6 v8.2.1).bind fun v9=>
    some (v0,v1,v2,(v9==v1),v3,v4,())
   else
    some (v0,v1,v2,false,v3,v4,()))).bind fun (v10,v11,v12,v13,v14,v15,_)=>
  ((bif v13 then
    (at? v10 v12).bind fun v16=>
    (at? v10 v12).bind fun v17=>
    (at? v10 v12).bind fun v18=>
    room ((List.length v15)+(List.length ([(v16.1,(w64 (v17.2.1+(1:Int))),v18.2.2.1,())]:List za))) 24 (some (v10,v11,v12,v14,(v15++([(v16.1,(w64 (v17.2.1+(1:Int))),v18.2.2.1,())]:List za)),()))
   else
    some (v10,v11,v12,v14,v15,()))).bind fun (v19,v20,v21,v22,v23,_)=>
  some (.inl (v19,v20,(w64 (v21+(1:Int))),v22,v23,()))
 else
  some (.inr (v3,v4,())))
def G42 (k:Nat):GrT×(List za)×Int×Unit→(Option ((List za)×Unit)):=fun (a0,a1,a2,_)=>
 (iter k (znp k) (a1,a2,(0:Int),a0,([]:List za),())).bind fun (v24,v25,_)=>
 (G70 k (v24,v25,())).bind fun (v26,_)=>
 some (v26,())
theorem zkW (k:Nat):FOk (S:=SyS) prog 42 [.val (.st 4),.val (.list (.st 11)),.val (.int .i64)] [.cl (.st 11)] (G42 k):=FOk.mk (k:=k) [.l ⟨[e 1 (.list (.st 11)),e 2 (.int .i64),p 3 1,(7,.b (.whole 2)),e 8 (.int .i64)],[(1,.box none [.one 1 (.st 4)]),(2,.row 1 (.st 11))],3,true⟩ [(.exit 0,⟨[p 3 1,(7,.b (.whole 2))],[(1,.box none [.one 1 (.st 4)]),(2,.row 1 (.st 11))],3,true⟩)],.c 39 [(.normal,⟨[e 1 (.list (.st 11)),e 2 (.int .i64),p 3 1,(7,.b (.whole 2)),e 8 (.int .i64),e 42 .bool],[(1,.box none [.one 1 (.st 4)]),(2,.row 1 (.st 11))],3,true⟩)],.c 61 [(.normal,⟨[e 1 (.list (.st 11)),e 2 (.int .i64),p 3 1,(7,.b (.whole 2)),e 8 (.int .i64)],[(1,.box none [.one 1 (.st 4)]),(2,.row 1 (.st 11))],3,true⟩)],.e 81 (.st 11),.e 82 (.st 11),.z 94 64] [enP (ziF k),enP (zkQ k)] (by kernel_rfl) fun _=>by kernel_rfl
def zmS (k:Nat):LB ((List za)×(List za)×Int×Unit) (Unit ⊕ (Bool×Unit)):=fun (v0,v1,v2,_)=>
 (bif decide (v2<(v0.length:Int)) then
  (at? v0 v2).bind fun v3=>
  (at? v1 v2).bind fun v4=>
  (bif (if (true=true) then (!((v3.1==v4.1)&&((v3.2.1==v4.2.1)&&((v3.2.2.1==v4.2.2.1)&&true)))) else ((v3.1==v4.1)&&((v3.2.1==v4.2.1)&&((v3.2.2.1==v4.2.2.1)&&true)))) then
   some (.inr (.inr (false,())))
  else
   some (.inl (v0,v1,(w64 (v2+(1:Int))),())))
 else
  some (.inr (.inl ())))
def G72 (k:Nat):(List za)×(List za)×Unit→(Option (Bool×Unit)):=fun (a0,a1,_)=>
 (bif ((a0.length:Int) != (a1.length:Int)) then
  some (false,())
 else
  (iter k (zmS k) (a0,a1,(0:Int),())).bind fun
  | .inl _=>some (true,())
  | .inr (v5,_)=>some (v5,()))
theorem zoC (k:Nat):FOk (S:=SyS) prog 72 [.val (.list (.st 11)),.val (.list (.st 11))] [.val .bool] (G72 k):=FOk.mk (k:=k) [.l ⟨[e 0 (.list (.st 11)),e 1 (.list (.st 11)),e 5 (.int .i64)],[],1,false⟩ [(.exit 0,⟨[],[],1,false⟩),(.ret,⟨[e 4 .bool],[],1,false⟩)]] [] (by kernel_rfl) fun _=>by kernel_rfl
def zno (k:Nat):LB ((List (List za))×(List za)×Int×Unit) (Unit ⊕ (Int×Unit)):=fun (v0,v1,v2,_)=>
 (bif decide (v2<(v0.length:Int)) then
  (at? v0 v2).bind fun v3=>
  (G72 k (v3,v1,())).bind fun (v4,_)=>
  (bif v4 then
   some (.inr (.inr (v2,())))
  else
   some (.inl (v0,v1,(w64 (v2+(1:Int))),())))
 else
  some (.inr (.inl ())))
def G43 (k:Nat):(List (List za))×(List za)×Unit→(Option (Int×Unit)):=fun (a0,a1,_)=>
 (iter k (zno k) (a0,a1,(0:Int),())).bind fun
 | .inl _=>some ((-(1:Int)),())
 | .inr (v5,_)=>some (v5,())
theorem zkV (k:Nat):FOk (S:=SyS) prog 43 [.val (.list (.list (.st 11))),.val (.list (.st 11))] [.val (.int .i64)] (G43 k):=FOk.mk (k:=k) [.l ⟨[e 0 (.list (.list (.st 11))),e 1 (.list (.st 11)),e 5 (.int .i64)],[],1,false⟩ [(.exit 0,⟨[],[],1,false⟩),(.ret,⟨[e 4 (.int .i64)],[],1,false⟩)]] [enP (zoC k)] (by kernel_rfl) fun _=>by kernel_rfl
def znq (k:Nat):LB (Int×Int×GrT×(List (List za))×Unit) ((Int×GrT×(List (List za))×Unit) ⊕ (Int×Unit)):=fun (v4,v5,v6,v7,_)=>
 (bif decide (v5<(w64 ((v6.1.length:Int)+(v6.2.1.length:Int)))) then
  (at? v7 v4).bind fun v8=>
  (List.get?Internal v7 (Int.toNat v4)).bind fun v9=>
  (G71 k (v6,v5,())).bind fun (v10,_)=>
  (G42 k (v6,v9,v10,())).bind fun (v11,_)=>
  ((bif decide ((v11.length:Int)>(0:Int)) then
    (G43 k (v7,v11,())).bind fun (v12,_)=>
    some (v4,v5,v11,decide (v12<(0:Int)),v6,v7,())
   else
    some (v4,v5,v11,false,v6,v7,()))).bind fun (v13,v14,v15,v16,v17,v18,_)=>
  ((bif v16 then
    room ((List.length v18)+(List.length ([v15]:List (List za)))) 24 (some (v13,v14,v17,(v18++([v15]:List (List za))),()))
   else
    some (v13,v14,v17,v18,()))).bind fun (v19,v20,v21,v22,_)=>
  (bif decide ((v22.length:Int)>(120:Int)) then
   some (.inr (.inr ((6:Int),())))
  else
   some (.inl (v19,(w64 (v20+(1:Int))),v21,v22,())))
 else
  some (.inr (.inl (v4,v6,v7,()))))
def znr (k:Nat):LB (Int×GrT×(List (List za))×Unit) (((List (List za))×Unit) ⊕ (Int×Unit)):=fun (v1,v2,v3,_)=>
 (bif decide (v1<(v3.length:Int)) then
  (iter k (znq k) (v1,(0:Int),v2,v3,())).bind fun
  | .inl (v23,v24,v25,_)=>some (.inl ((w64 (v23+(1:Int))),v24,v25,()))
  | .inr (v26,_)=>some (.inr (.inr (v26,())))
 else
  some (.inr (.inl (v3,()))))
def G41 (k:Nat):GrT×Unit→(Option ((List (List za))×Int×Unit)):=fun (a0,_)=>
 (G70 k (a0,([((-(1:Int)),(0:Int),(1000:Int),())]:List za),())).bind fun (v0,_)=>
 (iter k (znr k) ((0:Int),a0,([v0]:List (List za)),())).bind fun
 | .inl (v27,_)=>some (v27,(0:Int),())
 | .inr (v28,_)=>some (([]:List (List za)),v28,())
theorem zoW (k:Nat):FOk (S:=SyS) prog 41 [.val (.st 4)] [.own (.list (.st 11)),.val (.int .i64)] (G41 k):=FOk.mk (k:=k) [.e 10 (.st 11),.z 11 10,.e 12 (.list (.st 11)),.l ⟨[p 1 1,(4,.b (.whole 2)),e 5 (.int .i64)],[(1,.box none [.one 1 (.st 4)]),(2,.row 2 (.list (.st 11)))],3,true⟩ [(.exit 0,⟨[(4,.b (.whole 1))],[(1,.row 2 (.list (.st 11)))],2,true⟩),(.ret,⟨[(2,.b .nil),e 3 (.int .i64)],[],1,true⟩)],.l ⟨[p 1 1,(4,.b (.whole 2)),e 5 (.int .i64),e 6 (.int .i64)],[(1,.box none [.one 1 (.st 4)]),(2,.row 2 (.list (.st 11)))],3,true⟩ [(.exit 2,⟨[p 1 1,(4,.b (.whole 2)),e 5 (.int .i64)],[(1,.box none [.one 1 (.st 4)]),(2,.row 2 (.list (.st 11)))],3,true⟩),(.ret,⟨[(2,.b .nil),e 3 (.int .i64)],[],1,true⟩)],.c 70 [(.normal,⟨[p 1 1,(4,.b (.whole 2)),e 5 (.int .i64),e 6 (.int .i64),(7,.b (.one 2 (.list (.st 11)))),e 47 .bool],[(1,.box none [.one 1 (.st 4)]),(2,.row 2 (.list (.st 11)))],3,true⟩)],.c 81 [(.normal,⟨[p 1 1,(4,.b (.whole 2)),e 5 (.int .i64),e 6 (.int .i64)],[(1,.box none [.one 1 (.st 4)]),(2,.row 2 (.list (.st 11)))],3,true⟩)],.e 85 (.list (.st 11)),.e 86 (.list (.st 11))] [enP (zkQ k),enP (zoD k),enP (zkW k),enP (zkV k)] (by kernel_rfl) fun _=>by kernel_rfl
def zn2 (k:Nat):LB (Int×Int×GrT×(List (List za))×(List (List zI))×(List (List Int))×(List zI)×Unit) (Int×GrT×(List (List za))×(List (List zI))×(List (List Int))×(List zI)×Unit):=fun (v8,v9,v10,v11,v12,v13,v14,_)=>
 (bif decide (v9<(v10.1.length:Int)) then
  (at? v11 v8).bind fun v15=>
  (List.get?Internal v11 (Int.toNat v8)).bind fun v16=>
  (G42 k (v10,v16,(w64 ((-(1:Int))-v9)),())).bind fun (v17,_)=>
  ((bif decide ((v17.length:Int)>(0:Int)) then
    (G43 k (v11,v17,())).bind fun (v18,_)=>
    (at? v14 v9).bind fun v19=>
    (List.get?Internal v14 (Int.toNat v9)).bind fun v20=>
    some (v8,v9,v10,v11,v12,v13,(List.set v14 (Int.toNat v9) ((1:Int),v18,())),())
   else
    some (v8,v9,v10,v11,v12,v13,v14,()))).bind fun (v21,v22,v23,v24,v25,v26,v27,_)=>
  some (.inl (v21,(w64 (v22+(1:Int))),v23,v24,v25,v26,v27,()))
 else
  some (.inr (v8,v10,v11,v12,v13,v14,())))
def zn1 (k:Nat):LB (Int×Int×GrT×(List (List za))×(List (List zI))×(List (List Int))×(List zI)×Unit) ((Int×GrT×(List (List za))×(List (List zI))×(List (List Int))×(List zI)×Unit) ⊕ (Int×Unit)):=fun (v34,v35,v36,v37,v38,v39,v40,_)=>
 (at? v37 v34).bind fun v41=>
 (List.get?Internal v37 (Int.toNat v34)).bind fun v42=>
 (bif decide (v35<(v42.length:Int)) then
  ((at? v37 v34).bind fun v43=>
   (List.get?Internal v37 (Int.toNat v34)).bind fun v44=>
   (at? v44 v35).bind fun v45=>
   (G44 k (v36,v45.1,())).bind fun (v46,_)=>
   (bif decide (v45.2.1<(v46.length:Int)) then
    some (.inl (v34,v35,v36,v37,v38,v39,v40,()))
   else
    ((bif (v45.2.2.1==(1000:Int)) then
      some (v34,v35,(v36.1.length:Int),v36,v37,v38,v39,v40,v45,(2:Int),v45.1,())
     else
      some (v34,v35,v45.2.2.1,v36,v37,v38,v39,v40,v45,(2:Int),v45.1,()))).bind fun (v47,v48,v49,v50,v51,v52,v53,v54,v55,v56,v57,_)=>
    ((bif (v55.1==(-(1:Int))) then
      some (v47,v48,v49,v50,v51,v52,v53,v54,(3:Int),(0:Int),())
     else
      some (v47,v48,v49,v50,v51,v52,v53,v54,v56,v57,()))).bind fun (v58,v59,v60,v61,v62,v63,v64,v65,v66,v67,_)=>
    (at? v65 v60).bind fun v68=>
    (List.get?Internal v65 (Int.toNat v60)).bind fun v69=>
    (bif (v69.1 != (0:Int)) then
     some (.inr ((7:Int),()))
    else
     (at? v65 v60).bind fun v70=>
     (List.get?Internal v65 (Int.toNat v60)).bind fun v71=>
     some (.inl (v58,v59,v61,v62,v63,v64,(List.set v65 (Int.toNat v60) (v66,v67,())),())))):Option ((Int×Int×GrT×(List (List za))×(List (List zI))×(List (List Int))×(List zI)×Unit) ⊕ (Int×Unit))).bind fun
  | .inl (v72,v73,v74,v75,v76,v77,v78,_)=>some (.inl (v72,(w64 (v73+(1:Int))),v74,v75,v76,v77,v78,()))
  | .inr (v79,_)=>some (.inr (.inr (v79,())))
 else
  some (.inr (.inl (v34,v36,v37,v38,v39,v40,()))))
def zn0 (k:Nat):LB (Int×Int×GrT×(List (List za))×(List (List zI))×(List (List Int))×(List zI)×(List Int)×Unit) (Int×GrT×(List (List za))×(List (List zI))×(List (List Int))×(List zI)×(List Int)×Unit):=fun (v87,v88,v89,v90,v91,v92,v93,v94,_)=>
 (bif decide (v88<(v89.2.1.length:Int)) then
  (at? v90 v87).bind fun v95=>
  (List.get?Internal v90 (Int.toNat v87)).bind fun v96=>
  (G42 k (v89,v96,v88,())).bind fun (v97,_)=>
  (at? v94 v88).bind fun v98=>
  (List.get?Internal v94 (Int.toNat v88)).bind fun v99=>
  ((bif decide ((v97.length:Int)>(0:Int)) then
    (G43 k (v90,v97,())).bind fun (v100,_)=>
    (at? (List.set v94 (Int.toNat v88) (-(1:Int))) v88).bind fun v101=>
    (List.get?Internal (List.set v94 (Int.toNat v88) (-(1:Int))) (Int.toNat v88)).bind fun v102=>
    some (v87,v88,v89,v90,v91,v92,v93,(List.set (List.set v94 (Int.toNat v88) (-(1:Int))) (Int.toNat v88) v100),())
   else
    some (v87,v88,v89,v90,v91,v92,v93,(List.set v94 (Int.toNat v88) (-(1:Int))),()))).bind fun (v103,v104,v105,v106,v107,v108,v109,v110,_)=>
  some (.inl (v103,(w64 (v104+(1:Int))),v105,v106,v107,v108,v109,v110,()))
 else
  some (.inr (v87,v89,v90,v91,v92,v93,v94,())))
def zn3 (k:Nat):LB (Int×GrT×(List (List za))×jw) (jw ⊕ (Int×Unit)):=fun (v2,v3,v4,v5,v6,_)=>
 (bif decide (v2<(v4.length:Int)) then
  (mkS 16 (w64 ((v3.1.length:Int)+(1:Int)))).bind fun v7=>
  (iter k (zn2 k) (v2,(0:Int),v3,v4,v5,v6,(List.replicate v7 ((0:Int),(0:Int),())),())).bind fun (v28,v29,v30,v31,v32,v33,_)=>
  (iter k (zn1 k) (v28,(0:Int),v29,v30,v31,v32,v33,())).bind fun
  | .inl (v80,v81,v82,v83,v84,v85,_)=>(mkS 8 (v81.2.1.length:Int)).bind fun v86=>
   (iter k (zn0 k) (v80,(0:Int),v81,v82,v83,v84,v85,(List.replicate v86 (0:Int)),())).bind fun (v111,v112,v113,v114,v115,v116,v117,_)=>
   (bif (List.isEmpty ([v116]:List (List zI))) then
    (Option.none)
   else
    room ((List.length v114)+(List.length ([v116]:List (List zI)))) 24 ((bif (List.isEmpty ([v117]:List (List Int))) then
     (Option.none)
    else
     room ((List.length v115)+(List.length ([v117]:List (List Int)))) 24 (some (.inl ((w64 (v111+(1:Int))),v112,v113,(v114++([v116]:List (List zI))),(v115++([v117]:List (List Int))),()))))))
  | .inr (v118,_)=>some (.inr (.inr (v118,())))
 else
  some (.inr (.inl (v5,v6,()))))
def G26 (k:Nat):GrT×Unit→(Option (jw×Int×Unit)):=fun (a0,_)=>
 (G41 k (a0,())).bind fun (v0,v1,_)=>
 (bif (v1 != (0:Int)) then
  some ((([]:List (List zI)),([]:List (List Int)),()),v1,())
 else
  (iter k (zn3 k) ((0:Int),a0,v0,([]:List (List zI)),([]:List (List Int)),())).bind fun
  | .inl v119=>some ((v119.1,v119.2.1,()),(0:Int),())
  | .inr (v120,_)=>some ((([]:List (List zI)),([]:List (List Int)),()),v120,()))
theorem zo8 (k:Nat):FOk (S:=SyS) prog 26 [.val (.st 4)] [.val (.st 10),.val (.int .i64)] (G26 k):=FOk.mk (k:=k) [.l ⟨[p 1 1,p 2 2,(4,.b (.whole 3)),p 6 4,e 7 (.int .i64)],[(1,.box none [.one 1 (.st 4)]),(2,.box none [.nil,.nil]),(3,.row 1 (.list (.st 11))),(4,.box none [.whole 5,.whole 6]),(5,.row 1 (.own (.st 9))),(6,.row 1 (.own (.int .i64)))],7,true⟩ [(.exit 0,⟨[p 2 1,p 6 2],[(1,.box none [.nil,.nil]),(2,.box none [.whole 3,.whole 4]),(3,.row 1 (.own (.st 9))),(4,.row 1 (.own (.int .i64)))],5,true⟩),(.ret,⟨[p 2 1,e 3 (.int .i64)],[(1,.box none [.nil,.nil])],2,true⟩)],.e 58 (.st 9),.l ⟨[p 1 1,p 2 2,(4,.b (.whole 3)),p 6 4,e 7 (.int .i64),(8,.b (.whole 7)),e 9 (.int .i64)],[(1,.box none [.one 1 (.st 4)]),(2,.box none [.nil,.nil]),(3,.row 1 (.list (.st 11))),(4,.box none [.whole 5,.whole 6]),(5,.row 1 (.own (.st 9))),(6,.row 1 (.own (.int .i64))),(7,.row 1 (.st 9))],8,true⟩ [(.exit 2,⟨[p 1 1,p 2 2,(4,.b (.whole 3)),p 6 4,e 7 (.int .i64),(8,.b (.whole 7))],[(1,.box none [.one 1 (.st 4)]),(2,.box none [.nil,.nil]),(3,.row 1 (.list (.st 11))),(4,.box none [.whole 5,.whole 6]),(5,.row 1 (.own (.st 9))),(6,.row 1 (.own (.int .i64))),(7,.row 1 (.st 9))],8,true⟩)],.c 98 [(.normal,⟨[p 1 1,p 2 2,(4,.b (.whole 3)),p 6 4,e 7 (.int .i64),(8,.b (.whole 7)),e 9 (.int .i64)],[(1,.box none [.one 1 (.st 4)]),(2,.box none [.nil,.nil]),(3,.row 1 (.list (.st 11))),(4,.box none [.whole 5,.whole 6]),(5,.row 1 (.own (.st 9))),(6,.row 1 (.own (.int .i64))),(7,.row 1 (.st 9))],8,true⟩)],.l ⟨[p 1 1,p 2 2,(4,.b (.whole 3)),p 6 4,e 7 (.int .i64),(8,.b (.whole 7)),e 11 (.int .i64)],[(1,.box none [.one 1 (.st 4)]),(2,.box none [.nil,.nil]),(3,.row 1 (.list (.st 11))),(4,.box none [.whole 5,.whole 6]),(5,.row 1 (.own (.st 9))),(6,.row 1 (.own (.int .i64))),(7,.row 1 (.st 9))],8,true⟩ [(.exit 4,⟨[p 1 1,p 2 2,(4,.b (.whole 3)),p 6 4,e 7 (.int .i64),(8,.b (.whole 7))],[(1,.box none [.one 1 (.st 4)]),(2,.box none [.nil,.nil]),(3,.row 1 (.list (.st 11))),(4,.box none [.whole 5,.whole 6]),(5,.row 1 (.own (.st 9))),(6,.row 1 (.own (.int .i64))),(7,.row 1 (.st 9))],8,true⟩),(.ret,⟨[p 2 1,e 3 (.int .i64)],[(1,.box none [.nil,.nil])],2,true⟩)],.c 134 [(.normal,⟨[p 1 1,p 2 2,(4,.b (.whole 3)),p 6 4,e 7 (.int .i64),(8,.b (.whole 7)),e 11 (.int .i64)],[(1,.box none [.one 1 (.st 4)]),(2,.box none [.nil,.nil]),(3,.row 1 (.list (.st 11))),(4,.box none [.whole 5,.whole 6]),(5,.row 1 (.own (.st 9))),(6,.row 1 (.own (.int .i64))),(7,.row 1 (.st 9))],8,true⟩),(.ret,⟨[p 2 1,e 3 (.int .i64)],[(1,.box none [.nil,.nil])],2,true⟩)],.c 177 [(.normal,⟨[p 1 1,p 2 2,(4,.b (.whole 3)),p 6 4,e 7 (.int .i64),(8,.b (.whole 7)),e 11 (.int .i64),p 12 8,e 13 (.int .i64),p 14 9],[(1,.box none [.one 1 (.st 4)]),(2,.box none [.nil,.nil]),(3,.row 1 (.list (.st 11))),(4,.box none [.whole 5,.whole 6]),(5,.row 1 (.own (.st 9))),(6,.row 1 (.own (.int .i64))),(7,.row 1 (.st 9)),(8,.box none [.one 1 (.st 11)]),(9,.box none [.one 1 (.int .i64),.one 1 (.int .i64)])],10,true⟩)],.c 191 [(.normal,⟨[p 1 1,p 2 2,(4,.b (.whole 3)),p 6 4,e 7 (.int .i64),(8,.b (.whole 7)),e 11 (.int .i64),e 13 (.int .i64),p 14 8],[(1,.box none [.one 1 (.st 4)]),(2,.box none [.nil,.nil]),(3,.row 1 (.list (.st 11))),(4,.box none [.whole 5,.whole 6]),(5,.row 1 (.own (.st 9))),(6,.row 1 (.own (.int .i64))),(7,.row 1 (.st 9)),(8,.box none [.one 1 (.int .i64),.one 1 (.int .i64)])],9,true⟩)],.e 230 (.int .i64),.l ⟨[p 1 1,p 2 2,(4,.b (.whole 3)),p 6 4,e 7 (.int .i64),(8,.b (.whole 7)),(15,.b (.whole 8)),e 16 (.int .i64)],[(1,.box none [.one 1 (.st 4)]),(2,.box none [.nil,.nil]),(3,.row 1 (.list (.st 11))),(4,.box none [.whole 5,.whole 6]),(5,.row 1 (.own (.st 9))),(6,.row 1 (.own (.int .i64))),(7,.row 1 (.st 9)),(8,.row 1 (.int .i64))],9,true⟩ [(.exit 6,⟨[p 1 1,p 2 2,(4,.b (.whole 3)),p 6 4,e 7 (.int .i64),(8,.b (.whole 7)),(15,.b (.whole 8))],[(1,.box none [.one 1 (.st 4)]),(2,.box none [.nil,.nil]),(3,.row 1 (.list (.st 11))),(4,.box none [.whole 5,.whole 6]),(5,.row 1 (.own (.st 9))),(6,.row 1 (.own (.int .i64))),(7,.row 1 (.st 9)),(8,.row 1 (.int .i64))],9,true⟩)],.c 276 [(.normal,⟨[p 1 1,p 2 2,(4,.b (.whole 3)),p 6 4,e 7 (.int .i64),(8,.b (.whole 7)),(15,.b (.whole 8)),e 16 (.int .i64)],[(1,.box none [.one 1 (.st 4)]),(2,.box none [.nil,.nil]),(3,.row 1 (.list (.st 11))),(4,.box none [.whole 5,.whole 6]),(5,.row 1 (.own (.st 9))),(6,.row 1 (.own (.int .i64))),(7,.row 1 (.st 9)),(8,.row 1 (.int .i64))],9,true⟩)],.e 295 (.own (.st 9)),.e 296 (.own (.st 9)),.e 300 (.own (.int .i64)),.e 301 (.own (.int .i64))] [enP (zoW k),enP (zkW k),enP (zkV k),enP (ziF k)] (by kernel_rfl) fun _=>by kernel_rfl
def G73 (k:Nat):GrT×Unit→(Option ((List (List Int))×Unit)):=fun (a0,_)=>
 (G93 k (a0,true,())).bind fun (v0,_)=>
 (G92 k (v0,())).bind fun (v1,_)=>
 some (v1,())
theorem zoB (k:Nat):FOk (S:=SyS) prog 73 [.val (.st 4)] [.own (.list (.int .i64))] (G73 k):=FOk.mk (k:=k) [.z 9 4,.h ⟨[],⟨[(0,.b (.whole 3))],[(3,.row 1 (.own (.int .i64)))],4,true⟩⟩] [enP (zgD k),enH (ziC k)] (by kernel_rfl) fun _=>by kernel_rfl
def G74 (k:Nat):GrT×Unit→(Option ((List (List Int))×Unit)):=fun (a0,_)=>
 (G93 k (a0,false,())).bind fun (v0,_)=>
 (G92 k (v0,())).bind fun (v1,_)=>
 some (v1,())
theorem zoA (k:Nat):FOk (S:=SyS) prog 74 [.val (.st 4)] [.own (.list (.int .i64))] (G74 k):=FOk.mk (k:=k) [.z 9 4,.h ⟨[],⟨[(0,.b (.whole 3))],[(3,.row 1 (.own (.int .i64)))],4,true⟩⟩] [enP (zgD k),enH (ziC k)] (by kernel_rfl) fun _=>by kernel_rfl
def zmP (k:Nat):LB (Bool×Int×Int×GrT×(List Bool)×(List (List Bool))×(List (List Bool))×(List Bool)×Unit) (Bool×Int×GrT×(List Bool)×(List (List Bool))×(List (List Bool))×(List Bool)×Unit):=fun (v19,v20,v21,v22,v23,v24,v25,v26,_)=>
 ((at? v22.2.2.2.1 v20).bind fun v27=>
  (bif decide (v21<(v27.2.1.length:Int)) then
   (at? v22.2.2.2.1 v20).bind fun v28=>
   (at? v26 v28.1).bind fun v29=>
   (List.get?Internal v26 (Int.toNat v28.1)).bind fun v30=>
   some (v19,v20,v21,v30,v22,v23,v24,v25,v26,())
  else
   some (v19,v20,v21,false,v22,v23,v24,v25,v26,()))).bind fun (v31,v32,v33,v34,v35,v36,v37,v38,v39,_)=>
 (bif v34 then
  (at? v35.2.2.2.1 v32).bind fun v40=>
  (at? v40.2.1 v33).bind fun v41=>
  ((bif decide (v41≥(0:Int)) then
    (at? v39 v41).bind fun v42=>
    (List.get?Internal v39 (Int.toNat v41)).bind fun v43=>
    some (v31,v32,v33,v41,(!v43),v35,v36,v37,v38,v39,())
   else
    some (v31,v32,v33,v41,false,v35,v36,v37,v38,v39,()))).bind fun (v44,v45,v46,v47,v48,v49,v50,v51,v52,v53,_)=>
  ((bif v48 then
    (at? v53 v47).bind fun v54=>
    (List.get?Internal v53 (Int.toNat v47)).bind fun v55=>
    some (true,v45,v46,v49,v50,v51,v52,(List.set v53 (Int.toNat v47) true),())
   else
    some (v44,v45,v46,v49,v50,v51,v52,v53,()))).bind fun (v56,v57,v58,v59,v60,v61,v62,v63,_)=>
  some (.inl (v56,v57,(w64 (v58+(1:Int))),v59,v60,v61,v62,v63,()))
 else
  some (.inr (v31,v32,v35,v36,v37,v38,v39,())))
def zmQ (k:Nat):LB (Bool×Int×GrT×(List Bool)×(List (List Bool))×(List (List Bool))×(List Bool)×Unit) (Bool×GrT×(List Bool)×(List (List Bool))×(List (List Bool))×(List Bool)×Unit):=fun (v12,v13,v14,v15,v16,v17,v18,_)=>
 (bif decide (v13<(v14.2.2.2.1.length:Int)) then
  (iter k (zmP k) (v12,v13,(0:Int),v14,v15,v16,v17,v18,())).bind fun (v64,v65,v66,v67,v68,v69,v70,_)=>
  some (.inl (v64,(w64 (v65+(1:Int))),v66,v67,v68,v69,v70,()))
 else
  some (.inr (v12,v14,v15,v16,v17,v18,())))
def zmR (k:Nat):LB (Bool×GrT×(List Bool)×(List (List Bool))×(List (List Bool))×(List Bool)×Unit) (GrT×(List Bool)×(List (List Bool))×(List (List Bool))×(List Bool)×Unit):=fun (v6,v7,v8,v9,v10,v11,_)=>
 (bif v6 then
  (iter k (zmQ k) (false,(0:Int),v7,v8,v9,v10,v11,())).bind fun (v71,v72,v73,v74,v75,v76,_)=>
  some (.inl (v71,v72,v73,v74,v75,v76,()))
 else
  some (.inr (v7,v8,v9,v10,v11,())))
def zmK (k:Nat):LB (Int×Int×Bool×Int×Int×Int×GrT×(List Bool)×(List (List Bool))×(List (List Bool))×(List Bool)×(List ZP)×RuT×Unit) (Int×Int×Bool×Int×Int×GrT×(List Bool)×(List (List Bool))×(List (List Bool))×(List Bool)×(List ZP)×RuT×Unit):=fun (v135,v136,v137,v138,v139,v140,v141,v142,v143,v144,v145,v146,v147,_)=>
 (bif decide (v140<(v147.2.1.length:Int)) then
  (at? v147.2.1 v139).bind fun v148=>
  (at? v147.2.1 v140).bind fun v149=>
  ((bif v137 then
    some (v135,v136,true,v138,v139,v140,v149,v141,v142,v143,v144,v145,v146,v147,())
   else
    (bif (v148==(w64 ((-(1:Int))-v135))) then
     (bif (v149==(w64 ((-(1:Int))-v136))) then
      some (v135,v136,true,v138,v139,v140,v149,v141,v142,v143,v144,v145,v146,v147,())
     else
      (bif decide (v149≥(0:Int)) then
       (at? v143 v149).bind fun v150=>
       (List.get?Internal v143 (Int.toNat v149)).bind fun v151=>
       (at? v151 v136).bind fun v152=>
       some (v135,v136,v152,v138,v139,v140,v149,v141,v142,v143,v144,v145,v146,v147,())
      else
       some (v135,v136,false,v138,v139,v140,v149,v141,v142,v143,v144,v145,v146,v147,())))
    else
     (bif decide (v148≥(0:Int)) then
      (at? v144 v148).bind fun v153=>
      (List.get?Internal v144 (Int.toNat v148)).bind fun v154=>
      (at? v154 v135).bind fun v155=>
      (bif v155 then
       (bif (v149==(w64 ((-(1:Int))-v136))) then
        some (v135,v136,true,v138,v139,v140,v149,v141,v142,v143,v144,v145,v146,v147,())
       else
        (bif decide (v149≥(0:Int)) then
         (at? v143 v149).bind fun v156=>
         (List.get?Internal v143 (Int.toNat v149)).bind fun v157=>
         (at? v157 v136).bind fun v158=>
         some (v135,v136,v158,v138,v139,v140,v149,v141,v142,v143,v144,v145,v146,v147,())
        else
         some (v135,v136,false,v138,v139,v140,v149,v141,v142,v143,v144,v145,v146,v147,())))
      else
       some (v135,v136,false,v138,v139,v140,v149,v141,v142,v143,v144,v145,v146,v147,()))
     else
      some (v135,v136,false,v138,v139,v140,v149,v141,v142,v143,v144,v145,v146,v147,()))))).bind fun (v159,v160,v161,v162,v163,v164,v165,v166,v167,v168,v169,v170,v171,v172,_)=>
  ((bif decide (v165<(0:Int)) then
    some (v159,v160,v161,v162,v163,v164,true,v166,v167,v168,v169,v170,v171,v172,())
   else
    (at? v167 v165).bind fun v173=>
    (List.get?Internal v167 (Int.toNat v165)).bind fun v174=>
    some (v159,v160,v161,v162,v163,v164,(!v174),v166,v167,v168,v169,v170,v171,v172,()))).bind fun (v175,v176,v177,v178,v179,v180,v181,v182,v183,v184,v185,v186,v187,v188,_)=>
  (bif v181 then
   some (.inr (v175,v176,v177,v178,v179,v182,v183,v184,v185,v186,v187,v188,()))
  else
   some (.inl (v175,v176,v177,v178,v179,(w64 (v180+(1:Int))),v182,v183,v184,v185,v186,v187,v188,())))
 else
  some (.inr (v135,v136,v137,v138,v139,v141,v142,v143,v144,v145,v146,v147,())))
def zmL (k:Nat):LB (Int×Int×Bool×Int×Int×GrT×(List Bool)×(List (List Bool))×(List (List Bool))×(List Bool)×(List ZP)×RuT×Unit) (Int×Int×Bool×Int×GrT×(List Bool)×(List (List Bool))×(List (List Bool))×(List Bool)×(List ZP)×Unit):=fun (v108,v109,v110,v111,v112,v113,v114,v115,v116,v117,v118,v119,_)=>
 ((bif decide (v112<(v119.2.1.length:Int)) then
   (at? v117 v119.1).bind fun v120=>
   (List.get?Internal v117 (Int.toNat v119.1)).bind fun v121=>
   some (v108,v109,v110,v111,v112,v121,v113,v114,v115,v116,v117,v118,v119,())
  else
   some (v108,v109,v110,v111,v112,false,v113,v114,v115,v116,v117,v118,v119,()))).bind fun (v122,v123,v124,v125,v126,v127,v128,v129,v130,v131,v132,v133,v134,_)=>
 (bif v127 then
  (iter k (zmK k) (v122,v123,v124,v125,v126,(w64 (v126+(1:Int))),v128,v129,v130,v131,v132,v133,v134,())).bind fun (v189,v190,v191,v192,v193,v194,v195,v196,v197,v198,v199,v200,_)=>
  some (.inl (v189,v190,v191,v192,(w64 (v193+(1:Int))),v194,v195,v196,v197,v198,v199,v200,()))
 else
  some (.inr (v122,v123,v124,v125,v128,v129,v130,v131,v132,v133,())))
def zmM (k:Nat):LB (Int×Int×Bool×Int×GrT×(List Bool)×(List (List Bool))×(List (List Bool))×(List Bool)×(List ZP)×Unit) (Int×Int×Bool×GrT×(List Bool)×(List (List Bool))×(List (List Bool))×(List Bool)×(List ZP)×Unit):=fun (v97,v98,v99,v100,v101,v102,v103,v104,v105,v106,_)=>
 (bif decide (v100<(v101.2.2.2.1.length:Int)) then
  (at? v101.2.2.2.1 v100).bind fun v107=>
  (iter k (zmL k) (v97,v98,v99,v100,(0:Int),v101,v102,v103,v104,v105,v106,v107,())).bind fun (v201,v202,v203,v204,v205,v206,v207,v208,v209,v210,_)=>
  some (.inl (v201,v202,v203,(w64 (v204+(1:Int))),v205,v206,v207,v208,v209,v210,()))
 else
  some (.inr (v97,v98,v99,v101,v102,v103,v104,v105,v106,())))
def zmN (k:Nat):LB (Int×Int×GrT×(List Bool)×(List (List Bool))×(List (List Bool))×(List Bool)×(List ZP)×Unit) (Int×GrT×(List Bool)×(List (List Bool))×(List (List Bool))×(List Bool)×(List ZP)×Unit):=fun (v89,v90,v91,v92,v93,v94,v95,v96,_)=>
 (bif decide (v90<(v91.1.length:Int)) then
  (iter k (zmM k) (v89,v90,false,(0:Int),v91,v92,v93,v94,v95,v96,())).bind fun (v211,v212,v213,v214,v215,v216,v217,v218,v219,_)=>
  ((bif v213 then
    room ((List.length v219)+(List.length ([(⟨([v211,v212]:List Int),rfl⟩:ZP)]:List ZP))) 16 (some (v211,v212,v214,v215,v216,v217,v218,(v219++([(⟨([v211,v212]:List Int),rfl⟩:ZP)]:List ZP)),()))
   else
    some (v211,v212,v214,v215,v216,v217,v218,v219,()))).bind fun (v220,v221,v222,v223,v224,v225,v226,v227,_)=>
  some (.inl (v220,(w64 (v221+(1:Int))),v222,v223,v224,v225,v226,v227,()))
 else
  some (.inr (v89,v91,v92,v93,v94,v95,v96,())))
def zmO (k:Nat):LB (Int×GrT×(List Bool)×(List (List Bool))×(List (List Bool))×(List Bool)×(List ZP)×Unit) ((List ZP)×Unit):=fun (v82,v83,v84,v85,v86,v87,v88,_)=>
 (bif decide (v82<(v83.1.length:Int)) then
  (iter k (zmN k) (v82,(0:Int),v83,v84,v85,v86,v87,v88,())).bind fun (v228,v229,v230,v231,v232,v233,v234,_)=>
  some (.inl ((w64 (v228+(1:Int))),v229,v230,v231,v232,v233,v234,()))
 else
  some (.inr (v88,())))
def G75 (k:Nat):GrT×Unit→(Option ((List ZP)×Unit)):=fun (a0,_)=>
 (G94 k (a0,())).bind fun (v0,_)=>
 (G93 k (a0,true,())).bind fun (v1,_)=>
 (G93 k (a0,false,())).bind fun (v2,_)=>
 (mkS 1 (a0.2.1.length:Int)).bind fun v3=>
 (at? (List.replicate v3 false) (0:Int)).bind fun v4=>
 (List.get?Internal (List.replicate v3 false) (Int.toNat (0:Int))).bind fun v5=>
 (iter k (zmR k) (true,a0,v0,v1,v2,(List.set (List.replicate v3 false) (Int.toNat (0:Int)) true),())).bind fun (v77,v78,v79,v80,v81,_)=>
 (iter k (zmO k) ((0:Int),v77,v78,v79,v80,v81,([]:List ZP),())).bind fun (v235,_)=>
 some (v235,())
theorem zoz (k:Nat):FOk (S:=SyS) prog 75 [.val (.st 4)] [.own (.arr 2 .i64)] (G75 k):=FOk.mk (k:=k) [.l ⟨[p 1 1,(3,.b (.whole 2)),(4,.b (.whole 3)),(5,.b (.whole 4)),(6,.b (.whole 5)),e 7 .bool],[(1,.box none [.one 1 (.st 4)]),(2,.row 1 .bool),(3,.row 1 (.list .bool)),(4,.row 1 (.list .bool)),(5,.row 1 .bool)],6,false⟩ [(.exit 0,⟨[p 1 1,(3,.b (.whole 2)),(4,.b (.whole 3)),(5,.b (.whole 4)),(6,.b (.whole 5))],[(1,.box none [.one 1 (.st 4)]),(2,.row 1 .bool),(3,.row 1 (.list .bool)),(4,.row 1 (.list .bool)),(5,.row 1 .bool)],6,false⟩)],.l ⟨[p 1 1,(3,.b (.whole 2)),(4,.b (.whole 3)),(5,.b (.whole 4)),(6,.b (.whole 5)),e 7 .bool,e 8 (.int .i64)],[(1,.box none [.one 1 (.st 4)]),(2,.row 1 .bool),(3,.row 1 (.list .bool)),(4,.row 1 (.list .bool)),(5,.row 1 .bool)],6,false⟩ [(.exit 2,⟨[p 1 1,(3,.b (.whole 2)),(4,.b (.whole 3)),(5,.b (.whole 4)),(6,.b (.whole 5)),e 7 .bool],[(1,.box none [.one 1 (.st 4)]),(2,.row 1 .bool),(3,.row 1 (.list .bool)),(4,.row 1 (.list .bool)),(5,.row 1 .bool)],6,false⟩)],.l ⟨[p 1 1,(3,.b (.whole 2)),(4,.b (.whole 3)),(5,.b (.whole 4)),(6,.b (.whole 5)),e 7 .bool,e 8 (.int .i64),e 9 (.int .i64)],[(1,.box none [.one 1 (.st 4)]),(2,.row 1 .bool),(3,.row 1 (.list .bool)),(4,.row 1 (.list .bool)),(5,.row 1 .bool)],6,false⟩ [(.exit 4,⟨[p 1 1,(3,.b (.whole 2)),(4,.b (.whole 3)),(5,.b (.whole 4)),(6,.b (.whole 5)),e 7 .bool,e 8 (.int .i64)],[(1,.box none [.one 1 (.st 4)]),(2,.row 1 .bool),(3,.row 1 (.list .bool)),(4,.row 1 (.list .bool)),(5,.row 1 .bool)],6,false⟩)],.c 75 [(.normal,⟨[p 1 1,(3,.b (.whole 2)),(4,.b (.whole 3)),(5,.b (.whole 4)),(6,.b (.whole 5)),e 7 .bool,e 8 (.int .i64),e 9 (.int .i64),e 60 .bool],[(1,.box none [.one 1 (.st 4)]),(2,.row 1 .bool),(3,.row 1 (.list .bool)),(4,.row 1 (.list .bool)),(5,.row 1 .bool)],6,false⟩)],.c 114 [(.normal,⟨[p 1 1,(3,.b (.whole 2)),(4,.b (.whole 3)),(5,.b (.whole 4)),(6,.b (.whole 5)),e 7 .bool,e 8 (.int .i64),e 9 (.int .i64),e 10 (.int .i64),e 80 .bool],[(1,.box none [.one 1 (.st 4)]),(2,.row 1 .bool),(3,.row 1 (.list .bool)),(4,.row 1 (.list .bool)),(5,.row 1 .bool)],6,false⟩)],.c 125 [(.normal,⟨[p 1 1,(3,.b (.whole 2)),(4,.b (.whole 3)),(5,.b (.whole 4)),(6,.b (.whole 5)),e 7 .bool,e 8 (.int .i64),e 9 (.int .i64)],[(1,.box none [.one 1 (.st 4)]),(2,.row 1 .bool),(3,.row 1 (.list .bool)),(4,.row 1 (.list .bool)),(5,.row 1 .bool)],6,false⟩)],.l ⟨[p 1 1,(3,.b (.whole 2)),(4,.b (.whole 3)),(5,.b (.whole 4)),(6,.b (.whole 5)),(11,.b (.whole 6)),e 12 (.int .i64)],[(1,.box none [.one 1 (.st 4)]),(2,.row 1 .bool),(3,.row 1 (.list .bool)),(4,.row 1 (.list .bool)),(5,.row 1 .bool),(6,.row 1 (.arr 2 .i64))],7,false⟩ [(.exit 6,⟨[(11,.b (.whole 1))],[(1,.row 1 (.arr 2 .i64))],2,false⟩)],.l ⟨[p 1 1,(3,.b (.whole 2)),(4,.b (.whole 3)),(5,.b (.whole 4)),(6,.b (.whole 5)),(11,.b (.whole 6)),e 12 (.int .i64),e 13 (.int .i64)],[(1,.box none [.one 1 (.st 4)]),(2,.row 1 .bool),(3,.row 1 (.list .bool)),(4,.row 1 (.list .bool)),(5,.row 1 .bool),(6,.row 1 (.arr 2 .i64))],7,false⟩ [(.exit 8,⟨[p 1 1,(3,.b (.whole 2)),(4,.b (.whole 3)),(5,.b (.whole 4)),(6,.b (.whole 5)),(11,.b (.whole 6)),e 12 (.int .i64)],[(1,.box none [.one 1 (.st 4)]),(2,.row 1 .bool),(3,.row 1 (.list .bool)),(4,.row 1 (.list .bool)),(5,.row 1 .bool),(6,.row 1 (.arr 2 .i64))],7,false⟩)],.l ⟨[p 1 1,(3,.b (.whole 2)),(4,.b (.whole 3)),(5,.b (.whole 4)),(6,.b (.whole 5)),(11,.b (.whole 6)),e 12 (.int .i64),e 13 (.int .i64),e 14 .bool,e 15 (.int .i64)],[(1,.box none [.one 1 (.st 4)]),(2,.row 1 .bool),(3,.row 1 (.list .bool)),(4,.row 1 (.list .bool)),(5,.row 1 .bool),(6,.row 1 (.arr 2 .i64))],7,false⟩ [(.exit 10,⟨[p 1 1,(3,.b (.whole 2)),(4,.b (.whole 3)),(5,.b (.whole 4)),(6,.b (.whole 5)),(11,.b (.whole 6)),e 12 (.int .i64),e 13 (.int .i64),e 14 .bool],[(1,.box none [.one 1 (.st 4)]),(2,.row 1 .bool),(3,.row 1 (.list .bool)),(4,.row 1 (.list .bool)),(5,.row 1 .bool),(6,.row 1 (.arr 2 .i64))],7,false⟩)],.l ⟨[p 1 1,(3,.b (.whole 2)),(4,.b (.whole 3)),(5,.b (.whole 4)),(6,.b (.whole 5)),(11,.b (.whole 6)),e 12 (.int .i64),e 13 (.int .i64),e 14 .bool,e 15 (.int .i64),p 16 7,e 17 (.int .i64)],[(1,.box none [.one 1 (.st 4)]),(2,.row 1 .bool),(3,.row 1 (.list .bool)),(4,.row 1 (.list .bool)),(5,.row 1 .bool),(6,.row 1 (.arr 2 .i64)),(7,.box none [.one 1 (.st 3)])],8,false⟩ [(.exit 12,⟨[p 1 1,(3,.b (.whole 2)),(4,.b (.whole 3)),(5,.b (.whole 4)),(6,.b (.whole 5)),(11,.b (.whole 6)),e 12 (.int .i64),e 13 (.int .i64),e 14 .bool,e 15 (.int .i64)],[(1,.box none [.one 1 (.st 4)]),(2,.row 1 .bool),(3,.row 1 (.list .bool)),(4,.row 1 (.list .bool)),(5,.row 1 .bool),(6,.row 1 (.arr 2 .i64))],7,false⟩)],.c 225 [(.normal,⟨[p 1 1,(3,.b (.whole 2)),(4,.b (.whole 3)),(5,.b (.whole 4)),(6,.b (.whole 5)),(11,.b (.whole 6)),e 12 (.int .i64),e 13 (.int .i64),e 14 .bool,e 15 (.int .i64),p 16 7,e 17 (.int .i64),e 121 .bool],[(1,.box none [.one 1 (.st 4)]),(2,.row 1 .bool),(3,.row 1 (.list .bool)),(4,.row 1 (.list .bool)),(5,.row 1 .bool),(6,.row 1 (.arr 2 .i64)),(7,.box none [.one 1 (.st 3)])],8,false⟩)],.l ⟨[p 1 1,(3,.b (.whole 2)),(4,.b (.whole 3)),(5,.b (.whole 4)),(6,.b (.whole 5)),(11,.b (.whole 6)),e 12 (.int .i64),e 13 (.int .i64),e 14 .bool,e 15 (.int .i64),p 16 7,e 17 (.int .i64),e 18 (.int .i64)],[(1,.box none [.one 1 (.st 4)]),(2,.row 1 .bool),(3,.row 1 (.list .bool)),(4,.row 1 (.list .bool)),(5,.row 1 .bool),(6,.row 1 (.arr 2 .i64)),(7,.box none [.one 1 (.st 3)])],8,false⟩ [(.exit 14,⟨[p 1 1,(3,.b (.whole 2)),(4,.b (.whole 3)),(5,.b (.whole 4)),(6,.b (.whole 5)),(11,.b (.whole 6)),e 12 (.int .i64),e 13 (.int .i64),e 14 .bool,e 15 (.int .i64),p 16 7,e 17 (.int .i64)],[(1,.box none [.one 1 (.st 4)]),(2,.row 1 .bool),(3,.row 1 (.list .bool)),(4,.row 1 (.list .bool)),(5,.row 1 .bool),(6,.row 1 (.arr 2 .i64)),(7,.box none [.one 1 (.st 3)])],8,false⟩)],.c 278 [(.normal,⟨[p 1 1,(3,.b (.whole 2)),(4,.b (.whole 3)),(5,.b (.whole 4)),(6,.b (.whole 5)),(11,.b (.whole 6)),e 12 (.int .i64),e 13 (.int .i64),e 14 .bool,e 15 (.int .i64),p 16 7,e 17 (.int .i64),e 18 (.int .i64),e 20 (.int .i64)],[(1,.box none [.one 1 (.st 4)]),(2,.row 1 .bool),(3,.row 1 (.list .bool)),(4,.row 1 (.list .bool)),(5,.row 1 .bool),(6,.row 1 (.arr 2 .i64)),(7,.box none [.one 1 (.st 3)])],8,false⟩)],.c 321 [(.normal,⟨[p 1 1,(3,.b (.whole 2)),(4,.b (.whole 3)),(5,.b (.whole 4)),(6,.b (.whole 5)),(11,.b (.whole 6)),e 12 (.int .i64),e 13 (.int .i64),e 14 .bool,e 15 (.int .i64),p 16 7,e 17 (.int .i64),e 18 (.int .i64),e 190 .bool],[(1,.box none [.one 1 (.st 4)]),(2,.row 1 .bool),(3,.row 1 (.list .bool)),(4,.row 1 (.list .bool)),(5,.row 1 .bool),(6,.row 1 (.arr 2 .i64)),(7,.box none [.one 1 (.st 3)])],8,false⟩)],.c 352 [(.normal,⟨[p 1 1,(3,.b (.whole 2)),(4,.b (.whole 3)),(5,.b (.whole 4)),(6,.b (.whole 5)),(11,.b (.whole 6)),e 12 (.int .i64),e 13 (.int .i64)],[(1,.box none [.one 1 (.st 4)]),(2,.row 1 .bool),(3,.row 1 (.list .bool)),(4,.row 1 (.list .bool)),(5,.row 1 .bool),(6,.row 1 (.arr 2 .i64))],7,false⟩)],.e 358 (.arr 2 .i64),.e 359 (.arr 2 .i64)] [enP (ziB k),enP (zgD k)] (by kernel_rfl) fun _=>by kernel_rfl
def zmJ (k:Nat):LB ((List Int)×Int×(List Bool)×Unit) ((List Bool)×Unit):=fun (v1,v2,v3,_)=>
 (bif decide (v2<(v1.length:Int)) then
  (at? v1 v2).bind fun v4=>
  (at? v3 v4).bind fun v5=>
  (List.get?Internal v3 (Int.toNat v4)).bind fun v6=>
  some (.inl (v1,(w64 (v2+(1:Int))),(List.set v3 (Int.toNat v4) true),()))
 else
  some (.inr (v3,())))
def G76 (k:Nat):(List Int)×Int×Unit→(Option ((List Bool)×Unit)):=fun (a0,a1,_)=>
 (mkS 1 a1).bind fun v0=>
 (iter k (zmJ k) (a0,(0:Int),(List.replicate v0 false),())).bind fun (v7,_)=>
 some (v7,())
theorem zoy (k:Nat):FOk (S:=SyS) prog 76 [.val (.list (.int .i64)),.val (.int .i64)] [.own .bool] (G76 k):=FOk.mk (k:=k) [.l ⟨[e 0 (.list (.int .i64)),(5,.b (.whole 1)),e 6 (.int .i64)],[(1,.row 1 .bool)],2,false⟩ [(.exit 0,⟨[(5,.b (.whole 1))],[(1,.row 1 .bool)],2,false⟩)]] [] (by kernel_rfl) fun _=>by kernel_rfl
def znn (k:Nat):LB (Int×GrT×GrT×(List zk)×(List (List Bool))×Unit) (GrT×GrT×(List zk)×(List (List Bool))×Unit):=fun (v0,v1,v2,v3,v4,_)=>
 (bif decide (v0<(v1.1.length:Int)) then
  (at? v1.1 v0).bind fun v5=>
  (G36 k (v5.2.1,())).bind fun (v6,v7,_)=>
  room ((List.length v3)+(List.length ([v6]:List zk))) 104 ((mkS 1 (v1.1.length:Int)).bind fun v8=>
  (bif (List.isEmpty ([(List.replicate v8 false)]:List (List Bool))) then
   (Option.none)
  else
   room ((List.length v4)+(List.length ([(List.replicate v8 false)]:List (List Bool)))) 24 (some (.inl ((w64 (v0+(1:Int))),v1,v2,(v3++([v6]:List zk)),(v4++([(List.replicate v8 false)]:List (List Bool))),())))))
 else
  some (.inr (v1,v2,v3,v4,())))
def znm (k:Nat):LB ((List ZP)×Int×y6) y6:=fun (v22,v23,v24,v25,v26,v27,v28,_)=>
 (bif decide (v23<(v22.length:Int)) then
  (at? v22 v23).bind fun v29=>
  inr? (0:Int) 2 ((at? v28 (Arr.get v29 (Int.toNat (0:Int)))).bind fun v30=>
  (List.get?Internal v28 (Int.toNat (Arr.get v29 (Int.toNat (0:Int))))).bind fun v31=>
  (at? v22 v23).bind fun v32=>
  inr? (1:Int) 2 ((List.get?Internal v28 (Int.toNat (Arr.get v29 (Int.toNat (0:Int))))).bind fun v33=>
  (at? v33 (Arr.get v32 (Int.toNat (1:Int)))).bind fun v34=>
  (List.get?Internal v28 (Int.toNat (Arr.get v29 (Int.toNat (0:Int))))).bind fun v35=>
  (List.get?Internal v35 (Int.toNat (Arr.get v32 (Int.toNat (1:Int))))).bind fun v36=>
  some (.inl (v22,(w64 (v23+(1:Int))),v24,v25,v26,v27,(List.set v28 (Int.toNat (Arr.get v29 (Int.toNat (0:Int)))) (List.set v35 (Int.toNat (Arr.get v32 (Int.toNat (1:Int)))) true)),()))))
 else
  some (.inr (v24,v25,v26,v27,v28,())))
def G45 (k:Nat):GrT×Unit→(Option y6):=fun (a0,_)=>
 (iter k (znn k) ((0:Int),a0,a0,([]:List zk),([]:List (List Bool)),())).bind fun (v9,v10,v11,v12,_)=>
 (G73 k (v9,())).bind fun (v13,_)=>
 (G74 k (v9,())).bind fun (v14,_)=>
 (G75 k (v9,())).bind fun (v15,_)=>
 (at? v13 (0:Int)).bind fun v16=>
 (List.get?Internal v13 (Int.toNat (0:Int))).bind fun v17=>
 (G76 k (v17,(v9.1.length:Int),())).bind fun (v18,_)=>
 (at? v14 (0:Int)).bind fun v19=>
 (List.get?Internal v14 (Int.toNat (0:Int))).bind fun v20=>
 (G76 k (v20,(v9.1.length:Int),())).bind fun (v21,_)=>
 (iter k (znm k) (v15,(0:Int),v10,v11,v18,v21,v12,())).bind fun v37=>
 some (v37.1,v37.2.1,v37.2.2.1,v37.2.2.2.1,v37.2.2.2.2.1,())
theorem zoV (k:Nat):HOk (S:=SyS) prog 45 zlw zlv (G45 k):=HOk.mk (k:=k) [.l ⟨[p 1 1,p 3 2,e 4 (.int .i64)],[(1,.box none [.one 1 (.st 4)]),(2,.box none [.one 1 (.st 4),.whole 3,.nil,.nil,.whole 4]),(3,.row 1 (.st 7)),(4,.row 1 (.own .bool))],5,false⟩ [(.exit 0,⟨[p 1 1,p 3 2],[(1,.box none [.one 1 (.st 4)]),(2,.box none [.one 1 (.st 4),.whole 3,.nil,.nil,.whole 4]),(3,.row 1 (.st 7)),(4,.row 1 (.own .bool))],5,false⟩)],.e 55 (.st 7),.e 56 (.st 7),.e 71 (.own .bool),.e 72 (.own .bool),.z 122 9,.l ⟨[p 3 1,(9,.b (.one 2 (.list (.arr 2 .i64)))),e 10 (.int .i64)],[(1,.box none [.one 1 (.st 4),.whole 2,.whole 3,.whole 4,.whole 5]),(2,.row 1 (.st 7)),(3,.row 1 .bool),(4,.row 1 .bool),(5,.row 1 (.own .bool))],6,true⟩ [(.exit 2,⟨[p 3 1],[(1,.box none [.one 1 (.st 4),.whole 2,.whole 3,.whole 4,.whole 5]),(2,.row 1 (.st 7)),(3,.row 1 .bool),(4,.row 1 .bool),(5,.row 1 (.own .bool))],6,true⟩)]] [enP (ziG k),enP (zoB k),enP (zoA k),enP (zoz k),enP (zoy k)] (by kernel_rfl) (by kernel_rfl) fun _=>by kernel_rfl
def G95 (k:Nat):y6×Int×Int×Unit→(Option (Bool×Unit)):=fun (a0,a1,a2,_)=>
 (bif decide (a1<(0:Int)) then
  ((at? a0.1.1 a2).bind fun v0=>
   (bif (!v0.2.2.1) then
    (at? a0.2.2.1 a2).bind fun v1=>
    some (v1,())
   else
    some (false,()))).bind fun (v2,_)=>
  some (v2,())
 else
  ((at? a0.1.1 a2).bind fun v3=>
   (bif v3.2.2.1 then
    some (true,())
   else
    (at? a0.2.2.2.2.1 a1).bind fun v4=>
    (at? v4 a2).bind fun v5=>
    some (v5,()))).bind fun (v6,_)=>
  some (v6,()))
theorem zom (k:Nat):FOk (S:=SyS) prog 95 [.ptr (.st 15),.val (.int .i64),.val (.int .i64)] [.val .bool] (G95 k):=FOk.mk (k:=k) [.c 12 [(.normal,⟨[e 6 .bool],[],1,false⟩)],.c 35 [(.normal,⟨[e 6 .bool],[],1,false⟩)]] [] (by kernel_rfl) fun _=>by kernel_rfl
def zmG (k:Nat):LB (Int×zh×zh×zh×(List Int)×Unit) (zh×(List Int)×Unit):=fun (v0,v1,v2,v3,v4,_)=>
 (bif decide (v0<(256:Int)) then
  ((G18 k (v1,(IntKind.u8.wrap v0),())).bind fun (v5,_)=>
   (bif v5 then
    (G18 k (v2,(IntKind.u8.wrap v0),())).bind fun (v6,_)=>
    some (v0,v6,v1,v2,v3,v4,())
   else
    some (v0,false,v1,v2,v3,v4,()))).bind fun (v7,v8,v9,v10,v11,v12,_)=>
  ((bif v8 then
    room ((List.length v12)+(List.length ([(IntKind.u8.wrap v7)]:List Int))) 1 (some (v7,v9,v10,v11,(v12++([(IntKind.u8.wrap v7)]:List Int)),()))
   else
    some (v7,v9,v10,v11,v12,()))).bind fun (v13,v14,v15,v16,v17,_)=>
  some (.inl ((w64 (v13+(1:Int))),v14,v15,v16,v17,()))
 else
  some (.inr (v3,v4,())))
def G78 (k:Nat):zh×zh×Unit→(Option (zh×Unit)):=fun (a0,a1,_)=>
 (iter k (zmG k) ((0:Int),a0,a1,(⟨([0,0,0,0]:List Int),rfl⟩:zh),([]:List Int),())).bind fun (v18,v19,_)=>
 (G19 k (v19,())).bind fun (v20,_)=>
 some (v20,())
theorem zkO (k:Nat):FOk (S:=SyS) prog 78 [.val (.arr 4 .u64),.val (.arr 4 .u64)] [.val (.arr 4 .u64)] (G78 k):=FOk.mk (k:=k) [.l ⟨[p 2 1,p 3 2,p 4 3,(5,.b (.whole 4)),e 6 (.int .i64)],[(1,.box none [.one 1 (.arr 4 .u64)]),(2,.box none [.one 1 (.arr 4 .u64)]),(3,.box none [.one 1 (.arr 4 .u64)]),(4,.row 1 (.int .u8))],5,false⟩ [(.exit 0,⟨[p 4 1,(5,.b (.whole 2))],[(1,.box none [.one 1 (.arr 4 .u64)]),(2,.row 1 (.int .u8))],3,false⟩)],.c 27 [(.normal,⟨[p 2 1,p 3 2,p 4 3,(5,.b (.whole 4)),e 6 (.int .i64),e 20 .bool],[(1,.box none [.one 1 (.arr 4 .u64)]),(2,.box none [.one 1 (.arr 4 .u64)]),(3,.box none [.one 1 (.arr 4 .u64)]),(4,.row 1 (.int .u8))],5,false⟩)],.c 39 [(.normal,⟨[p 2 1,p 3 2,p 4 3,(5,.b (.whole 4)),e 6 (.int .i64)],[(1,.box none [.one 1 (.arr 4 .u64)]),(2,.box none [.one 1 (.arr 4 .u64)]),(3,.box none [.one 1 (.arr 4 .u64)]),(4,.row 1 (.int .u8))],5,false⟩)],.e 44 (.int .u8),.e 45 (.int .u8)] [enP (zeq k),enP (ziH k)] (by kernel_rfl) fun _=>by kernel_rfl
def zmF (k:Nat):LB (Int×(List za)×za×Unit) (((List za)×za×Unit) ⊕ ((List za)×Unit)):=fun (v0,v1,v2,_)=>
 (bif decide (v0<(v1.length:Int)) then
  (at? v1 v0).bind fun v3=>
  (List.get?Internal v1 (Int.toNat v0)).bind fun v4=>
  (bif (if (false=true) then (!((v4.1==v2.1)&&((v4.2.1==v2.2.1)&&((v4.2.2.1==v2.2.2.1)&&true)))) else ((v4.1==v2.1)&&((v4.2.1==v2.2.1)&&((v4.2.2.1==v2.2.2.1)&&true)))) then
   some (.inr (.inr (v1,())))
  else
   some (.inl ((w64 (v0+(1:Int))),v1,v2,())))
 else
  some (.inr (.inl (v1,v2,()))))
def G79 (k:Nat):qB×List qB×Unit→(Option ((List za)×Unit)):=fun (a0,a1,_)=>
 (iter k (zmF k) ((0:Int),a1,a0,())).bind fun
 | .inl (v5,v6,_)=>room ((List.length v5)+(List.length ([v6]:List za))) 24 (some ((v5++([v6]:List za)),()))
 | .inr (v7,_)=>some (v7,())
theorem zkN (k:Nat):HOk (S:=SyS) prog 79 zly zlx (G79 k):=HOk.mk (k:=k) [.l ⟨[(0,.b (.whole 1)),p 3 2,e 5 (.int .i64)],[(1,.row 1 (.st 12)),(2,.box none [.one 1 (.st 12)])],3,true⟩ [(.exit 0,⟨[(0,.b (.whole 1)),p 3 2],[(1,.row 1 (.st 12)),(2,.box none [.one 1 (.st 12)])],3,true⟩),(.ret,⟨[(4,.b (.whole 1))],[(1,.row 1 (.st 12))],2,true⟩)],.e 47 (.st 12),.e 48 (.st 12)] [] (by kernel_rfl) (by kernel_rfl) fun _=>by kernel_rfl
def zmH (k:Nat):LB (Int×Int×(List Int)×Int×GrT×(List zk)×(List Bool)×(List Bool)×(List (List Bool))×(List za)×zh×Unit) (Int×Int×GrT×(List zk)×(List Bool)×(List Bool)×(List (List Bool))×(List za)×zh×Unit):=fun (v11,v12,v13,v14,v15,v16,v17,v18,v19,v20,v21,_)=>
 ((bif decide (v14<(v13.length:Int)) then
   (G95 k ((v15,v16,v17,v18,v19,()),v11,v12,())).bind fun (v22,_)=>
   some (v11,v12,v13,v14,v22,v15,v16,v17,v18,v19,v20,v21,())
  else
   some (v11,v12,v13,v14,false,v15,v16,v17,v18,v19,v20,v21,()))).bind fun (v23,v24,v25,v26,v27,v28,v29,v30,v31,v32,v33,v34,_)=>
 (bif v27 then
  (at? v29 v24).bind fun v35=>
  (List.get?Internal v29 (Int.toNat v24)).bind fun v36=>
  (at? v25 v26).bind fun v37=>
  (at? v36.1 v37).bind fun v38=>
  (G78 k (v38,v34,())).bind fun (v39,_)=>
  (G63 k (v39,())).bind fun (v40,_)=>
  ((bif (!v40) then
    (at? v25 v26).bind fun v41=>
    (G79 k ((v23,v24,v41,()),v33,())).bind fun (v42,_)=>
    some (v23,v24,v25,v26,v28,v29,v30,v31,v32,v42,v34,())
   else
    some (v23,v24,v25,v26,v28,v29,v30,v31,v32,v33,v34,()))).bind fun (v43,v44,v45,v46,v47,v48,v49,v50,v51,v52,v53,_)=>
  some (.inl (v43,v44,v45,(w64 (v46+(1:Int))),v47,v48,v49,v50,v51,v52,v53,()))
 else
  some (.inr (v23,v24,v28,v29,v30,v31,v32,v33,v34,())))
def zmI (k:Nat):LB (Int×Int×GrT×(List zk)×(List Bool)×(List Bool)×(List (List Bool))×(List za)×zh×Unit) (GrT×(List zk)×(List Bool)×(List Bool)×(List (List Bool))×(List za)×Unit):=fun (v0,v1,v2,v3,v4,v5,v6,v7,v8,_)=>
 (bif decide (v1<(v3.length:Int)) then
  (at? v3 v1).bind fun v9=>
  (List.get?Internal v3 (Int.toNat v1)).bind fun v10=>
  (iter k (zmH k) (v0,v1,v10.2.1,(0:Int),v2,v3,v4,v5,v6,v7,v8,())).bind fun (v54,v55,v56,v57,v58,v59,v60,v61,v62,_)=>
  some (.inl (v54,(w64 (v55+(1:Int))),v56,v57,v58,v59,v60,v61,v62,()))
 else
  some (.inr (v2,v3,v4,v5,v6,v7,())))
def G77 (k:Nat):Int×zh×GrT×List zk×List Bool×List Bool×List (List Bool)×List qB×Unit→(Option (GrT×(List zk)×(List Bool)×(List Bool)×(List (List Bool))×(List za)×Unit)):=fun (a0,a1,a2,a3,a4,a5,a6,a7,_)=>
 (iter k (zmI k) (a0,(0:Int),a2,a3,a4,a5,a6,a7,a1,())).bind fun (v63,v64,v65,v66,v67,v68,_)=>
 some (v63,v64,v65,v66,v67,v68,())
theorem zkP (k:Nat):HOk (S:=SyS) prog 77 zlF zeK (G77 k):=HOk.mk (k:=k) [.l ⟨[p 0 0,(1,.b (.whole 5)),e 2 (.int .i64),p 7 6,e 9 (.int .i64)],[(0,.box (some 0) [.one 1 (.st 4),.whole 1,.whole 2,.whole 3,.whole 4]),(1,.row 1 (.st 7)),(2,.row 1 .bool),(3,.row 1 .bool),(4,.row 1 (.own .bool)),(5,.row 1 (.st 12)),(6,.box none [.one 1 (.arr 4 .u64)])],7,true⟩ [(.exit 0,⟨[p 0 0,(1,.b (.whole 5))],[(0,.box (some 0) [.one 1 (.st 4),.whole 1,.whole 2,.whole 3,.whole 4]),(1,.row 1 (.st 7)),(2,.row 1 .bool),(3,.row 1 .bool),(4,.row 1 (.own .bool)),(5,.row 1 (.st 12))],6,true⟩)],.l ⟨[p 0 0,(1,.b (.whole 5)),e 2 (.int .i64),p 7 6,e 9 (.int .i64),e 10 (.list (.int .i64)),e 11 (.int .i64)],[(0,.box (some 0) [.one 1 (.st 4),.whole 1,.whole 2,.whole 3,.whole 4]),(1,.row 1 (.st 7)),(2,.row 1 .bool),(3,.row 1 .bool),(4,.row 1 (.own .bool)),(5,.row 1 (.st 12)),(6,.box none [.one 1 (.arr 4 .u64)])],7,true⟩ [(.exit 2,⟨[p 0 0,(1,.b (.whole 5)),e 2 (.int .i64),p 7 6,e 9 (.int .i64)],[(0,.box (some 0) [.one 1 (.st 4),.whole 1,.whole 2,.whole 3,.whole 4]),(1,.row 1 (.st 7)),(2,.row 1 .bool),(3,.row 1 .bool),(4,.row 1 (.own .bool)),(5,.row 1 (.st 12)),(6,.box none [.one 1 (.arr 4 .u64)])],7,true⟩)],.c 46 [(.normal,⟨[p 0 0,(1,.b (.whole 5)),e 2 (.int .i64),p 7 6,e 9 (.int .i64),e 10 (.list (.int .i64)),e 11 (.int .i64),e 38 .bool],[(0,.box (some 0) [.one 1 (.st 4),.whole 1,.whole 2,.whole 3,.whole 4]),(1,.row 1 (.st 7)),(2,.row 1 .bool),(3,.row 1 .bool),(4,.row 1 (.own .bool)),(5,.row 1 (.st 12)),(6,.box none [.one 1 (.arr 4 .u64)])],7,true⟩)],.c 82 [(.normal,⟨[p 0 0,(1,.b (.whole 5)),e 2 (.int .i64),p 7 6,e 9 (.int .i64),e 10 (.list (.int .i64)),e 11 (.int .i64)],[(0,.box (some 0) [.one 1 (.st 4),.whole 1,.whole 2,.whole 3,.whole 4]),(1,.row 1 (.st 7)),(2,.row 1 .bool),(3,.row 1 .bool),(4,.row 1 (.own .bool)),(5,.row 1 (.st 12)),(6,.box none [.one 1 (.arr 4 .u64)])],7,true⟩)],.h ⟨[(5,none)],⟨[(0,.b (.whole 7))],[(7,.row 1 (.st 12))],8,true⟩⟩] [enP (zom k),enP (zkO k),enP (zeo k),enH (zkN k)] (by kernel_rfl) (by kernel_rfl) fun _=>by kernel_rfl
def G46 (k:Nat):zh×GrT×List zk×List Bool×List Bool×List (List Bool)×Unit→(Option (GrT×(List zk)×(List Bool)×(List Bool)×(List (List Bool))×(List za)×Unit)):=fun (a0,a1,a2,a3,a4,a5,_)=>
 (G77 k ((-(1:Int)),a0,a1,a2,a3,a4,a5,([]:List za),())).bind fun (v0,v1,v2,v3,v4,v5,_)=>
 some (v0,v1,v2,v3,v4,v5,())
theorem zoU (k:Nat):HOk (S:=SyS) prog 46 zls zeK (G46 k):=HOk.mk (k:=k) [.h ⟨[(1,some 0),(2,none),(3,none),(4,none),(5,none)],⟨[(0,.b (.whole 12))],[(1,.box (some 0) [.one 1 (.st 4),.whole 8,.whole 9,.whole 10,.whole 11]),(8,.row 1 (.st 7)),(9,.row 1 .bool),(10,.row 1 .bool),(11,.row 1 (.own .bool)),(12,.row 1 (.st 12))],13,true⟩⟩] [enH (zkP k)] (by kernel_rfl) (by kernel_rfl) fun _=>by kernel_rfl
def zmE (k:Nat):LB ((List Int)×zI) (Unit ⊕ (Bool×Unit)):=fun (v0,v1,v2,_)=>
 (bif decide (v2<(v0.length:Int)) then
  (at? v0 v2).bind fun v3=>
  (bif (v3==v1) then
   some (.inr (.inr (true,())))
  else
   some (.inl (v0,v1,(w64 (v2+(1:Int))),())))
 else
  some (.inr (.inl ())))
def G80 (k:Nat):(List Int)×Int×Unit→(Option (Bool×Unit)):=fun (a0,a1,_)=>
 (iter k (zmE k) (a0,a1,(0:Int),())).bind fun
 | .inl _=>some (false,())
 | .inr (v4,_)=>some (v4,())
theorem zkM (k:Nat):FOk (S:=SyS) prog 80 [.val (.list (.int .i64)),.val (.int .i64)] [.val .bool] (G80 k):=FOk.mk (k:=k) [.l ⟨[e 0 (.list (.int .i64)),e 1 (.int .i64),e 5 (.int .i64)],[],1,false⟩ [(.exit 0,⟨[],[],1,false⟩),(.ret,⟨[e 4 .bool],[],1,false⟩)]] [] (by kernel_rfl) fun _=>by kernel_rfl
def znk (k:Nat):LB (Int×(List Int)×Int×GrT×(List zk)×(List Bool)×(List Bool)×(List (List Bool))×(List za)×zh×(List za)×za×zk×Unit) (Int×GrT×(List zk)×(List Bool)×(List Bool)×(List (List Bool))×(List za)×zh×(List za)×za×zk×Unit):=fun (v14,v15,v16,v17,v18,v19,v20,v21,v22,v23,v24,v25,v26,_)=>
 (bif decide (v16<(v15.length:Int)) then
  (at? v15 v16).bind fun v27=>
  (at? v26.1 v27).bind fun v28=>
  (G78 k (v28,v23,())).bind fun (v29,_)=>
  (G63 k (v29,())).bind fun (v30,_)=>
  ((bif (!v30) then
    (at? v15 v16).bind fun v31=>
    (G79 k ((v25.1,v25.2.1,v31,()),v24,())).bind fun (v32,_)=>
    some (v14,v15,v16,v17,v18,v19,v20,v21,v22,v23,v32,v25,v26,())
   else
    some (v14,v15,v16,v17,v18,v19,v20,v21,v22,v23,v24,v25,v26,()))).bind fun (v33,v34,v35,v36,v37,v38,v39,v40,v41,v42,v43,v44,v45,_)=>
  some (.inl (v33,v34,(w64 (v35+(1:Int))),v36,v37,v38,v39,v40,v41,v42,v43,v44,v45,()))
 else
  some (.inr (v14,v17,v18,v19,v20,v21,v22,v23,v24,v25,v26,())))
def znl (k:Nat):LB (Int×GrT×(List zk)×(List Bool)×(List Bool)×(List (List Bool))×(List za)×zh×(List za)×Unit) (GrT×(List zk)×(List Bool)×(List Bool)×(List (List Bool))×(List za)×Unit):=fun (v0,v1,v2,v3,v4,v5,v6,v7,v8,_)=>
 (bif decide (v0<(v6.length:Int)) then
  (at? v6 v0).bind fun v9=>
  (List.get?Internal v6 (Int.toNat v0)).bind fun v10=>
  (at? v2 v10.2.1).bind fun v11=>
  (List.get?Internal v2 (Int.toNat v10.2.1)).bind fun v12=>
  (at? v12.2.2.2.1 v10.2.2.1).bind fun v13=>
  (iter k (znk k) (v0,v13,(0:Int),v1,v2,v3,v4,v5,v6,v7,v8,v10,v12,())).bind fun (v46,v47,v48,v49,v50,v51,v52,v53,v54,v55,v56,_)=>
  (G80 k (v56.2.2.1,v55.2.2.1,())).bind fun (v57,_)=>
  ((bif v57 then
    (at? v47.1 v55.2.1).bind fun v58=>
    ((bif v58.2.2.1 then
      some (v46,v55.1,v47,v48,v49,v50,v51,v52,v53,v54,())
     else
      some (v46,v55.2.1,v47,v48,v49,v50,v51,v52,v53,v54,()))).bind fun (v59,v60,v61,v62,v63,v64,v65,v66,v67,v68,_)=>
    (G77 k (v60,v67,v61,v62,v63,v64,v65,v68,())).bind fun (v69,v70,v71,v72,v73,v74,_)=>
    some (v59,v69,v70,v71,v72,v73,v66,v67,v74,())
   else
    some (v46,v47,v48,v49,v50,v51,v52,v53,v54,()))).bind fun (v75,v76,v77,v78,v79,v80,v81,v82,v83,_)=>
  some (.inl ((w64 (v75+(1:Int))),v76,v77,v78,v79,v80,v81,v82,v83,()))
 else
  some (.inr (v1,v2,v3,v4,v5,v8,())))
def G47 (k:Nat):zh×GrT×List zk×List Bool×List Bool×List (List Bool)×List qB×Unit→(Option (GrT×(List zk)×(List Bool)×(List Bool)×(List (List Bool))×(List za)×Unit)):=fun (a0,a1,a2,a3,a4,a5,a6,_)=>
 (iter k (znl k) ((0:Int),a1,a2,a3,a4,a5,a6,a0,([]:List za),())).bind fun (v84,v85,v86,v87,v88,v89,_)=>
 some (v84,v85,v86,v87,v88,v89,())
theorem zoT (k:Nat):HOk (S:=SyS) prog 47 zlr zeK (G47 k):=HOk.mk (k:=k) [.l ⟨[p 0 0,(1,.b (.whole 5)),p 5 6,(7,.b (.whole 7)),e 8 (.int .i64)],[(0,.box (some 0) [.one 1 (.st 4),.whole 1,.whole 2,.whole 3,.whole 4]),(1,.row 1 (.st 7)),(2,.row 1 .bool),(3,.row 1 .bool),(4,.row 1 (.own .bool)),(5,.row 1 (.st 12)),(6,.box none [.one 1 (.arr 4 .u64)]),(7,.row 1 (.st 12))],8,true⟩ [(.exit 0,⟨[p 0 0,(7,.b (.whole 5))],[(0,.box (some 0) [.one 1 (.st 4),.whole 1,.whole 2,.whole 3,.whole 4]),(1,.row 1 (.st 7)),(2,.row 1 .bool),(3,.row 1 .bool),(4,.row 1 (.own .bool)),(5,.row 1 (.st 12))],6,true⟩)],.l ⟨[p 0 0,(1,.b (.whole 5)),p 5 6,(7,.b (.whole 7)),e 8 (.int .i64),p 9 8,p 10 9,e 11 (.list (.int .i64)),e 12 (.int .i64)],[(0,.box (some 0) [.one 1 (.st 4),.whole 1,.whole 2,.whole 3,.whole 4]),(1,.row 1 (.st 7)),(2,.row 1 .bool),(3,.row 1 .bool),(4,.row 1 (.own .bool)),(5,.row 1 (.st 12)),(6,.box none [.one 1 (.arr 4 .u64)]),(7,.row 1 (.st 12)),(8,.box none [.one 1 (.st 12)]),(9,.box none [.one 1 (.st 7)])],10,true⟩ [(.exit 2,⟨[p 0 0,(1,.b (.whole 5)),p 5 6,(7,.b (.whole 7)),e 8 (.int .i64),p 9 8,p 10 9],[(0,.box (some 0) [.one 1 (.st 4),.whole 1,.whole 2,.whole 3,.whole 4]),(1,.row 1 (.st 7)),(2,.row 1 .bool),(3,.row 1 .bool),(4,.row 1 (.own .bool)),(5,.row 1 (.st 12)),(6,.box none [.one 1 (.arr 4 .u64)]),(7,.row 1 (.st 12)),(8,.box none [.one 1 (.st 12)]),(9,.box none [.one 1 (.st 7)])],10,true⟩)],.c 92 [(.normal,⟨[p 0 0,(1,.b (.whole 5)),p 5 6,(7,.b (.whole 7)),e 8 (.int .i64),p 9 8,p 10 9,e 11 (.list (.int .i64)),e 12 (.int .i64)],[(0,.box (some 0) [.one 1 (.st 4),.whole 1,.whole 2,.whole 3,.whole 4]),(1,.row 1 (.st 7)),(2,.row 1 .bool),(3,.row 1 .bool),(4,.row 1 (.own .bool)),(5,.row 1 (.st 12)),(6,.box none [.one 1 (.arr 4 .u64)]),(7,.row 1 (.st 12)),(8,.box none [.one 1 (.st 12)]),(9,.box none [.one 1 (.st 7)])],10,true⟩)],.h ⟨[(7,none)],⟨[(0,.b (.whole 10))],[(10,.row 1 (.st 12))],11,true⟩⟩,.c 120 [(.normal,⟨[p 0 0,(1,.b (.whole 5)),p 5 6,(7,.b (.whole 7)),e 8 (.int .i64)],[(0,.box (some 0) [.one 1 (.st 4),.whole 1,.whole 2,.whole 3,.whole 4]),(1,.row 1 (.st 7)),(2,.row 1 .bool),(3,.row 1 .bool),(4,.row 1 (.own .bool)),(5,.row 1 (.st 12)),(6,.box none [.one 1 (.arr 4 .u64)]),(7,.row 1 (.st 12))],8,true⟩)],.c 141 [(.normal,⟨[p 0 0,(1,.b (.whole 5)),p 5 6,(7,.b (.whole 7)),e 8 (.int .i64),e 13 (.int .i64)],[(0,.box (some 0) [.one 1 (.st 4),.whole 1,.whole 2,.whole 3,.whole 4]),(1,.row 1 (.st 7)),(2,.row 1 .bool),(3,.row 1 .bool),(4,.row 1 (.own .bool)),(5,.row 1 (.st 12)),(6,.box none [.one 1 (.arr 4 .u64)]),(7,.row 1 (.st 12))],8,true⟩)],.h ⟨[(0,some 0),(1,none),(2,none),(3,none),(4,none),(7,none)],⟨[(0,.b (.whole 13))],[(0,.box (some 0) [.one 1 (.st 4),.whole 9,.whole 10,.whole 11,.whole 12]),(9,.row 1 (.st 7)),(10,.row 1 .bool),(11,.row 1 .bool),(12,.row 1 (.own .bool)),(13,.row 1 (.st 12))],14,true⟩⟩] [enP (zkO k),enP (zeo k),enH (zkN k),enP (zkM k),enH (zkP k)] (by kernel_rfl) (by kernel_rfl) fun _=>by kernel_rfl
def znj (k:Nat):LB (y6×(List za)×Int×Unit) (Unit ⊕ (Bool×Unit)):=fun (v0,v1,v2,_)=>
 (bif decide (v2<(v1.length:Int)) then
  (at? v1 v2).bind fun v3=>
  ((at? v0.1.1 v3.2.1).bind fun v4=>
   (bif (!v4.2.2.1) then
    (at? v0.2.2.2.1 v3.2.1).bind fun v5=>
    (bif v5 then
     (at? v0.2.1 v3.2.1).bind fun v6=>
     (at? v1 v2).bind fun v7=>
     (G80 k (v6.2.2.1,v7.2.2.1,())).bind fun (v8,_)=>
     some (v0,v1,v2,v8,())
    else
     some (v0,v1,v2,false,()))
   else
    some (v0,v1,v2,false,()))).bind fun (v9,v10,v11,v12,_)=>
  (bif v12 then
   some (.inr (.inr (true,())))
  else
   some (.inl (v9,v10,(w64 (v11+(1:Int))),())))
 else
  some (.inr (.inl ())))
def G48 (k:Nat):y6×(List qB)×Unit→(Option (Bool×Unit)):=fun (a0,a1,_)=>
 (iter k (znj k) (a0,a1,(0:Int),())).bind fun
 | .inl _=>some (false,())
 | .inr (v13,_)=>some (v13,())
theorem zoS (k:Nat):FOk (S:=SyS) prog 48 [.ptr (.st 15),.val (.list (.st 12))] [.val .bool] (G48 k):=FOk.mk (k:=k) [.l ⟨[(0,.b (.fp 1 (.st 15) 0)),e 1 (.list (.st 12)),e 5 (.int .i64)],[],1,false⟩ [(.exit 0,⟨[],[],1,false⟩),(.ret,⟨[e 4 .bool],[],1,false⟩)],.c 32 [(.normal,⟨[(0,.b (.fp 1 (.st 15) 0)),e 1 (.list (.st 12)),e 5 (.int .i64),e 52 .bool],[],1,false⟩)]] [enP (zkM k)] (by kernel_rfl) fun _=>by kernel_rfl
end
open Z
noncomputable section
def znX (k:Nat):LB (Int×Int×Int×Int×Int×GrT×GrT×(List zk)×(List Bool)×(List Bool)×(List (List Bool))×(List za)×Unit) (Int×Int×Int×Int×GrT×GrT×(List zk)×(List Bool)×(List Bool)×(List (List Bool))×(List za)×Unit):=fun (v20,v21,v22,v23,v24,v25,v26,v27,v28,v29,v30,v31,_)=>
 ((bif decide (v24<v22) then
   (bif (v24==(0:Int)) then
    some (v20,v21,v22,v23,v24,true,v25,v26,v27,v28,v29,v30,v31,())
   else
    some (v20,v21,v22,v23,v24,decide ((v31.length:Int)>(0:Int)),v25,v26,v27,v28,v29,v30,v31,()))
  else
   some (v20,v21,v22,v23,v24,false,v25,v26,v27,v28,v29,v30,v31,()))).bind fun (v32,v33,v34,v35,v36,v37,v38,v39,v40,v41,v42,v43,v44,_)=>
 (bif v37 then
  (G11 k ((⟨([0,0,0,0]:List Int),rfl⟩:zh),())).bind fun (v45,_)=>
  ((bif decide (v36<v35) then
    some (v32,v33,v34,v35,v36,decide (v36≥(w64 (v35-v32))),v38,v39,v40,v41,v42,v43,v44,v45,())
   else
    some (v32,v33,v34,v35,v36,false,v38,v39,v40,v41,v42,v43,v44,v45,()))).bind fun (v46,v47,v48,v49,v50,v51,v52,v53,v54,v55,v56,v57,v58,v59,_)=>
  ((bif v51 then
    (at? v52.2.2.2.2.1 (w64 (v50-(w64 (v49-v46))))).bind fun v60=>
    some (v46,v47,v48,v49,v50,v52,v53,v54,v55,v56,v57,v58,v60,())
   else
    ((bif decide (v50≥v49) then
      some (v46,v47,v48,v49,v50,decide (v50<(w64 (v49+v47))),v52,v53,v54,v55,v56,v57,v58,v59,())
     else
      some (v46,v47,v48,v49,v50,false,v52,v53,v54,v55,v56,v57,v58,v59,()))).bind fun (v61,v62,v63,v64,v65,v66,v67,v68,v69,v70,v71,v72,v73,v74,_)=>
    ((bif v66 then
      (at? v67.2.2.2.2.2.1 (w64 (v65-v64))).bind fun v75=>
      some (v61,v62,v63,v64,v65,v67,v68,v69,v70,v71,v72,v73,v75,())
     else
      some (v61,v62,v63,v64,v65,v67,v68,v69,v70,v71,v72,v73,v74,()))).bind fun (v76,v77,v78,v79,v80,v81,v82,v83,v84,v85,v86,v87,v88,_)=>
    some (v76,v77,v78,v79,v80,v81,v82,v83,v84,v85,v86,v87,v88,()))).bind fun (v89,v90,v91,v92,v93,v94,v95,v96,v97,v98,v99,v100,v101,_)=>
  ((bif (v93==(0:Int)) then
    (G46 k (v101,v95,v96,v97,v98,v99,())).bind fun (v102,v103,v104,v105,v106,v107,_)=>
    some (v89,v90,v91,v92,v93,v94,v102,v103,v104,v105,v106,v107,())
   else
    (G47 k (v101,v95,v96,v97,v98,v99,v100,())).bind fun (v108,v109,v110,v111,v112,v113,_)=>
    some (v89,v90,v91,v92,v93,v94,v108,v109,v110,v111,v112,v113,()))).bind fun (v114,v115,v116,v117,v118,v119,v120,v121,v122,v123,v124,v125,_)=>
  some (.inl (v114,v115,v116,v117,(w64 (v118+(1:Int))),v119,v120,v121,v122,v123,v124,v125,()))
 else
  some (.inr (v32,v33,v34,v35,v38,v39,v40,v41,v42,v43,v44,())))
def znY (k:Nat):LB (Int×Int×Int×Int×GrT×y6) ((Int×Int×Int×GrT×y6) ⊕ zI):=fun (v10,v11,v12,v13,v14,v15,v16,v17,v18,v19,_)=>
 (bif decide (v13<v12) then
  (iter k (znX k) (v10,v11,v12,v13,(0:Int),v14,v15,v16,v17,v18,v19,([]:List za),())).bind fun (v126,v127,v128,v129,v130,v131,v132,v133,v134,v135,v136,_)=>
  (G48 k ((v131,v132,v133,v134,v135,()),v136,())).bind fun (v137,_)=>
  (bif v137 then
   some (.inr (.inr (v128,v129,())))
  else
   some (.inl (v126,v127,v128,(w64 (v129+(1:Int))),v130,v131,v132,v133,v134,v135,())))
 else
  some (.inr (.inl (v10,v11,v12,v14,v15,v16,v17,v18,v19,()))))
def znZ (k:Nat):LB (Int×Int×Int×GrT×y6) (Unit ⊕ zI):=fun (v1,v2,v3,v4,v5,v6,v7,v8,v9,_)=>
 (bif decide (v3≤v4.2.2.2.2.2.2.1) then
  (iter k (znY k) (v1,v2,v3,(1:Int),v4,v5,v6,v7,v8,v9,())).bind fun
  | .inl (v138,v139,v140,v141,v142,v143,v144,v145,v146,_)=>some (.inl (v138,v139,(w64 (v140+(1:Int))),v141,v142,v143,v144,v145,v146,()))
  | .inr v147=>some (.inr (.inr (v147.1,v147.2.1,())))
 else
  some (.inr (.inl ())))
def G27 (k:Nat):GrT×Unit→(Option zI):=fun (a0,_)=>
 (G45 k (a0,())).bind fun v0=>
 (iter k (znZ k) ((a0.2.2.2.2.1.length:Int),(a0.2.2.2.2.2.1.length:Int),(2:Int),a0,v0.1,v0.2.1,v0.2.2.1,v0.2.2.2.1,v0.2.2.2.2.1,())).bind fun
 | .inl _=>some ((0:Int),(0:Int),())
 | .inr v148=>some (v148.1,v148.2.1,())
theorem zo7 (k:Nat):FOk (S:=SyS) prog 27 [.val (.st 4)] [.val (.int .i64),.val (.int .i64)] (G27 k):=FOk.mk (k:=k) [.h ⟨[],⟨[p 0 2],[(2,.box none [.one 1 (.st 4),.whole 3,.whole 4,.whole 5,.whole 6]),(3,.row 1 (.st 7)),(4,.row 1 .bool),(5,.row 1 .bool),(6,.row 1 (.own .bool))],7,true⟩⟩,.l ⟨[p 1 1,p 4 2,e 5 (.int .i64),e 6 (.int .i64),e 7 (.int .i64)],[(1,.box none [.one 1 (.st 4)]),(2,.box none [.one 1 (.st 4),.whole 3,.whole 4,.whole 5,.whole 6]),(3,.row 1 (.st 7)),(4,.row 1 .bool),(5,.row 1 .bool),(6,.row 1 (.own .bool))],7,true⟩ [(.exit 0,⟨[],[],1,true⟩),(.ret,⟨[e 2 (.int .i64),e 3 (.int .i64)],[],1,true⟩)],.l ⟨[p 1 1,p 4 2,e 5 (.int .i64),e 6 (.int .i64),e 7 (.int .i64),e 8 (.int .i64)],[(1,.box none [.one 1 (.st 4)]),(2,.box none [.one 1 (.st 4),.whole 3,.whole 4,.whole 5,.whole 6]),(3,.row 1 (.st 7)),(4,.row 1 .bool),(5,.row 1 .bool),(6,.row 1 (.own .bool))],7,true⟩ [(.exit 2,⟨[p 1 1,p 4 2,e 5 (.int .i64),e 6 (.int .i64),e 7 (.int .i64)],[(1,.box none [.one 1 (.st 4)]),(2,.box none [.one 1 (.st 4),.whole 3,.whole 4,.whole 5,.whole 6]),(3,.row 1 (.st 7)),(4,.row 1 .bool),(5,.row 1 .bool),(6,.row 1 (.own .bool))],7,true⟩),(.ret,⟨[e 2 (.int .i64),e 3 (.int .i64)],[],1,true⟩)],.l ⟨[p 1 1,p 4 2,e 5 (.int .i64),e 6 (.int .i64),e 7 (.int .i64),e 8 (.int .i64),(9,.b (.whole 7)),e 10 (.int .i64)],[(1,.box none [.one 1 (.st 4)]),(2,.box none [.one 1 (.st 4),.whole 3,.whole 4,.whole 5,.whole 6]),(3,.row 1 (.st 7)),(4,.row 1 .bool),(5,.row 1 .bool),(6,.row 1 (.own .bool)),(7,.row 1 (.st 12))],8,true⟩ [(.exit 4,⟨[p 1 1,p 4 2,e 5 (.int .i64),e 6 (.int .i64),e 7 (.int .i64),e 8 (.int .i64),(9,.b (.whole 7))],[(1,.box none [.one 1 (.st 4)]),(2,.box none [.one 1 (.st 4),.whole 3,.whole 4,.whole 5,.whole 6]),(3,.row 1 (.st 7)),(4,.row 1 .bool),(5,.row 1 .bool),(6,.row 1 (.own .bool)),(7,.row 1 (.st 12))],8,true⟩)],.c 70 [(.normal,⟨[p 1 1,p 4 2,e 5 (.int .i64),e 6 (.int .i64),e 7 (.int .i64),e 8 (.int .i64),(9,.b (.whole 7)),e 10 (.int .i64),e 42 .bool],[(1,.box none [.one 1 (.st 4)]),(2,.box none [.one 1 (.st 4),.whole 3,.whole 4,.whole 5,.whole 6]),(3,.row 1 (.st 7)),(4,.row 1 .bool),(5,.row 1 .bool),(6,.row 1 (.own .bool)),(7,.row 1 (.st 12))],8,true⟩)],.c 97 [(.normal,⟨[p 1 1,p 4 2,e 5 (.int .i64),e 6 (.int .i64),e 7 (.int .i64),e 8 (.int .i64),(9,.b (.whole 7)),e 10 (.int .i64),p 11 8,e 47 .bool],[(1,.box none [.one 1 (.st 4)]),(2,.box none [.one 1 (.st 4),.whole 3,.whole 4,.whole 5,.whole 6]),(3,.row 1 (.st 7)),(4,.row 1 .bool),(5,.row 1 .bool),(6,.row 1 (.own .bool)),(7,.row 1 (.st 12)),(8,.box none [.one 1 (.arr 4 .u64)])],9,true⟩)],.c 110 [(.normal,⟨[p 1 1,p 4 2,e 5 (.int .i64),e 6 (.int .i64),e 7 (.int .i64),e 8 (.int .i64),(9,.b (.whole 7)),e 10 (.int .i64),p 11 8],[(1,.box none [.one 1 (.st 4)]),(2,.box none [.one 1 (.st 4),.whole 3,.whole 4,.whole 5,.whole 6]),(3,.row 1 (.st 7)),(4,.row 1 .bool),(5,.row 1 .bool),(6,.row 1 (.own .bool)),(7,.row 1 (.st 12)),(8,.box none [.one 1 (.arr 4 .u64)])],9,true⟩)],.c 124 [(.normal,⟨[p 1 1,p 4 2,e 5 (.int .i64),e 6 (.int .i64),e 7 (.int .i64),e 8 (.int .i64),(9,.b (.whole 7)),e 10 (.int .i64),p 11 8,e 67 .bool],[(1,.box none [.one 1 (.st 4)]),(2,.box none [.one 1 (.st 4),.whole 3,.whole 4,.whole 5,.whole 6]),(3,.row 1 (.st 7)),(4,.row 1 .bool),(5,.row 1 .bool),(6,.row 1 (.own .bool)),(7,.row 1 (.st 12)),(8,.box none [.one 1 (.arr 4 .u64)])],9,true⟩)],.c 137 [(.normal,⟨[p 1 1,p 4 2,e 5 (.int .i64),e 6 (.int .i64),e 7 (.int .i64),e 8 (.int .i64),(9,.b (.whole 7)),e 10 (.int .i64),p 11 8],[(1,.box none [.one 1 (.st 4)]),(2,.box none [.one 1 (.st 4),.whole 3,.whole 4,.whole 5,.whole 6]),(3,.row 1 (.st 7)),(4,.row 1 .bool),(5,.row 1 .bool),(6,.row 1 (.own .bool)),(7,.row 1 (.st 12)),(8,.box none [.one 1 (.arr 4 .u64)])],9,true⟩)],.c 153 [(.normal,⟨[p 1 1,p 4 2,e 5 (.int .i64),e 6 (.int .i64),e 7 (.int .i64),e 8 (.int .i64),(9,.b (.whole 7)),e 10 (.int .i64)],[(1,.box none [.one 1 (.st 4)]),(2,.box none [.one 1 (.st 4),.whole 3,.whole 4,.whole 5,.whole 6]),(3,.row 1 (.st 7)),(4,.row 1 .bool),(5,.row 1 .bool),(6,.row 1 (.own .bool)),(7,.row 1 (.st 12))],8,true⟩)],.h ⟨[(2,some 0),(3,none),(4,none),(5,none),(6,none)],⟨[(0,.b (.whole 14))],[(2,.box (some 0) [.one 1 (.st 4),.whole 10,.whole 11,.whole 12,.whole 13]),(10,.row 1 (.st 7)),(11,.row 1 .bool),(12,.row 1 .bool),(13,.row 1 (.own .bool)),(14,.row 1 (.st 12))],15,true⟩⟩,.h ⟨[(2,some 0),(3,none),(4,none),(5,none),(6,none),(7,none)],⟨[(0,.b (.whole 14))],[(2,.box (some 0) [.one 1 (.st 4),.whole 10,.whole 11,.whole 12,.whole 13]),(10,.row 1 (.st 7)),(11,.row 1 .bool),(12,.row 1 .bool),(13,.row 1 (.own .bool)),(14,.row 1 (.st 12))],15,true⟩⟩] [enH (zoV k),enP (zkY k),enH (zoU k),enH (zoT k),enP (zoS k)] (by kernel_rfl) fun _=>by kernel_rfl
def G20 (k:Nat):(List UInt8)×Unit→(Option (GrT×zI)):=fun (a0,_)=>
 (G24 k (a0,())).bind fun (v0,v1,v2,_)=>
 (bif (v2 != (0:Int)) then
  some ((([]:List yd),([]:List (List UInt8)),([]:List ScT),([]:List RuT),([]:List zh),([]:List zh),(0:Int),()),v1,v2,())
 else
  (G25 k (v0.1,())).bind fun (v3,v4,_)=>
  (bif (v4 != (0:Int)) then
   some ((([]:List yd),([]:List (List UInt8)),([]:List ScT),([]:List RuT),([]:List zh),([]:List zh),(0:Int),()),(0:Int),v4,())
  else
   (G26 k (v0,())).bind fun (v5,v6,_)=>
   (bif (v6 != (0:Int)) then
    some ((([]:List yd),([]:List (List UInt8)),([]:List ScT),([]:List RuT),([]:List zh),([]:List zh),(0:Int),()),(0:Int),v6,())
   else
    (G27 k (v0,())).bind fun v7=>
    (bif decide (v7.1>(0:Int)) then
     some ((([]:List yd),([]:List (List UInt8)),([]:List ScT),([]:List RuT),([]:List zh),([]:List zh),(0:Int),()),(0:Int),(8:Int),())
    else
     some (v0,(0:Int),(0:Int),())))))
theorem zpc (k:Nat):FOk (S:=SyS) prog 20 [.val (.str)] [.val (.st 4),.val (.int .i64),.val (.int .i64)] (G20 k):=FOk.mk (k:=k) [] [enP (zo9 k),enP (zkX k),enP (zo8 k),enP (zo7 k)] (by kernel_rfl) fun _=>by kernel_rfl
def G12 (k:Nat):Int×Unit→(Option (GrT×Unit)):=fun (a0,_)=>
 (G21 k (a0,())).bind fun (v0,_)=>
 (G20 k (v0,())).bind fun (v1,v2,v3,_)=>
 some (v1,())
theorem zpe (k:Nat):FOk (S:=SyS) prog 12 [.val (.int .u8)] [.val (.st 4)] (G12 k):=FOk.mk (k:=k) [] [enP (zpb k),enP (zpc k)] (by kernel_rfl) fun _=>by kernel_rfl
def zft (k:Nat):LB ((List Int)×(List (List UInt8))×Int×(List Int)×Unit) ((List Int)×Unit):=fun (v2,v3,v4,v5,_)=>
 (bif decide (v4<(v2.length:Int)) then
  (at? v2 v4).bind fun v6=>
  nz (v3.length:Int) ((at? v3 (Int.tmod (w64 v6) (v3.length:Int))).bind fun v7=>
  room ((List.length v5)+(List.length (QM v7))) 1 (some (.inl (v2,v3,(w64 (v4+(1:Int))),(v5++(QM v7)),()))))
 else
  some (.inr (v5,())))
def zjf (k:Nat):Int×(List Int)×Unit→(Option ((List Int)×Unit)):=fun (a0,a1,_)=>
 nz (([[[97],[98],[32],[97,98],[97,32,97,98,32,98],[97,97,98,98],[10],[120],[97,97,97,98,98,98]],[[49],[50],[45],[32],[49,48,32,45,32,50],[10],[45,32,45,49],[120],[48,45,49,45,50]],[[97],[98],[97,97],[98,97,98],[10],[99],[98,97],[97,97,97,97]],[[123,125],[123],[125],[34,107,34,58,34,118,34],[123,34,97,34,58,123,125,125],[10],[120],[44],[34],[123,32,34,98,34,58,32,34,99,34,44,32,34,100,34,58,123,125,32,125]],[[97,116],[97],[46],[97,116,32,120,46,121],[10,32,32],[10],[49],[97,116,32,98,10,97,116,32,99],[32]]]:List (List (List UInt8))).length:Int) (((at? ([[[97],[98],[32],[97,98],[97,32,97,98,32,98],[97,97,98,98],[10],[120],[97,97,97,98,98,98]],[[49],[50],[45],[32],[49,48,32,45,32,50],[10],[45,32,45,49],[120],[48,45,49,45,50]],[[97],[98],[97,97],[98,97,98],[10],[99],[98,97],[97,97,97,97]],[[123,125],[123],[125],[34,107,34,58,34,118,34],[123,34,97,34,58,123,125,125],[10],[120],[44],[34],[123,32,34,98,34,58,32,34,99,34,44,32,34,100,34,58,123,125,32,125]],[[97,116],[97],[46],[97,116,32,120,46,121],[10,32,32],[10],[49],[97,116,32,98,10,97,116,32,99],[32]]]:List (List (List UInt8))) (Int.tmod (w64 a0) (([[[97],[98],[32],[97,98],[97,32,97,98,32,98],[97,97,98,98],[10],[120],[97,97,97,98,98,98]],[[49],[50],[45],[32],[49,48,32,45,32,50],[10],[45,32,45,49],[120],[48,45,49,45,50]],[[97],[98],[97,97],[98,97,98],[10],[99],[98,97],[97,97,97,97]],[[123,125],[123],[125],[34,107,34,58,34,118,34],[123,34,97,34,58,123,125,125],[10],[120],[44],[34],[123,32,34,98,34,58,32,34,99,34,44,32,34,100,34,58,123,125,32,125]],[[97,116],[97],[46],[97,116,32,120,46,121],[10,32,32],[10],[49],[97,116,32,98,10,97,116,32,99],[32]]]:List (List (List UInt8))).length:Int)))).bind fun v0=>
 ((List.get?Internal ([[[97],[98],[32],[97,98],[97,32,97,98,32,98],[97,97,98,98],[10],[120],[97,97,97,98,98,98]],[[49],[50],[45],[32],[49,48,32,45,32,50],[10],[45,32,45,49],[120],[48,45,49,45,50]],[[97],[98],[97,97],[98,97,98],[10],[99],[98,97],[97,97,97,97]],[[123,125],[123],[125],[34,107,34,58,34,118,34],[123,34,97,34,58,123,125,125],[10],[120],[44],[34],[123,32,34,98,34,58,32,34,99,34,44,32,34,100,34,58,123,125,32,125]],[[97,116],[97],[46],[97,116,32,120,46,121],[10,32,32],[10],[49],[97,116,32,98,10,97,116,32,99],[32]]]:List (List (List UInt8))) (Int.toNat (Int.tmod (w64 a0) (([[[97],[98],[32],[97,98],[97,32,97,98,32,98],[97,97,98,98],[10],[120],[97,97,97,98,98,98]],[[49],[50],[45],[32],[49,48,32,45,32,50],[10],[45,32,45,49],[120],[48,45,49,45,50]],[[97],[98],[97,97],[98,97,98],[10],[99],[98,97],[97,97,97,97]],[[123,125],[123],[125],[34,107,34,58,34,118,34],[123,34,97,34,58,123,125,125],[10],[120],[44],[34],[123,32,34,98,34,58,32,34,99,34,44,32,34,100,34,58,123,125,32,125]],[[97,116],[97],[46],[97,116,32,120,46,121],[10,32,32],[10],[49],[97,116,32,98,10,97,116,32,99],[32]]]:List (List (List UInt8))).length:Int))))).bind fun v1=>
 (iter k (zft k) (a1,v1,(0:Int),([]:List Int),())).bind fun (v8,_)=>
 some (v8,()))
theorem zl8 (k:Nat):FOk (S:=SyS) prog 127 [.val (.int .u8),.val (.list (.int .u8))] [.cl (.int .u8)] (zjf k):=FOk.mk (k:=k) [.e 6 .str,.e 7 .str,.e 8 .str,.e 9 .str,.e 10 .str,.z 11 9,.z 11 10,.z 11 11,.z 11 12,.z 11 13,.e 11 (.list .str),.l ⟨[e 1 (.list (.int .u8)),(6,.b (.one 2 (.list .str))),(7,.b (.whole 1)),e 8 (.int .i64)],[(1,.row 1 (.int .u8))],2,true⟩ [(.exit 0,⟨[(7,.b (.whole 1))],[(1,.row 1 (.int .u8))],2,true⟩)],.e 61 (.int .u8),.z 73 4] [] (by kernel_rfl) fun _=>by kernel_rfl
def zfq (k:Nat):LB ((List Int)×Int×Int×Int×Int×ql×Unit) zI:=fun (v0,v1,v2,v3,v4,v5,_)=>
 (bif decide (v4<(v0.length:Int)) then
  (at? v5.2.1 v1).bind fun v6=>
  (at? v0 v4).bind fun v7=>
  inr? v7 256 ((at? v6 (Arr.get v5.1 (Int.toNat v7))).bind fun v8=>
  (bif decide (v8<(0:Int)) then
   some (.inr (v2,v3,()))
  else
   (at? v5.2.2.1 v8).bind fun v9=>
   ((bif decide (v9≥(0:Int)) then
     (at? v5.2.2.1 v8).bind fun v10=>
     some (v0,v8,v10,(w64 (v4+(1:Int))),v4,v5,())
    else
     some (v0,v8,v2,v3,v4,v5,()))).bind fun (v11,v12,v13,v14,v15,v16,_)=>
   some (.inl (v11,v12,v13,v14,(w64 (v15+(1:Int))),v16,()))))
 else
  some (.inr (v2,v3,())))
def zi9 (k:Nat):ql×(List Int)×Unit→(Option zI):=fun (a0,a1,_)=>
 (iter k (zfq k) (a1,(0:Int),(-(1:Int)),(0:Int),(0:Int),a0,())).bind fun v17=>
 some (v17.1,v17.2.1,())
theorem zl2 (k:Nat):FOk (S:=SyS) prog 136 [.val (.st 6),.val (.list (.int .u8))] [.val (.int .i64),.val (.int .i64)] (zi9 k):=FOk.mk (k:=k) [.l ⟨[e 1 (.list (.int .u8)),p 2 1,e 6 (.int .i64),e 7 (.int .i64),e 8 (.int .i64),e 9 (.int .i64)],[(1,.box none [.one 1 (.st 6)])],2,false⟩ [(.exit 0,⟨[e 7 (.int .i64),e 8 (.int .i64)],[],1,false⟩)],.c 64 [(.normal,⟨[e 1 (.list (.int .u8)),p 2 1,e 6 (.int .i64),e 7 (.int .i64),e 8 (.int .i64),e 9 (.int .i64)],[(1,.box none [.one 1 (.st 6)])],2,false⟩)]] [] (by kernel_rfl) fun _=>by kernel_rfl
def zfs (k:Nat):LB ((List Int)×Int×ql×(List za)×Unit) ((List za)×Unit):=fun (v0,v1,v2,v3,_)=>
 (hi? (List.length v0) v1).bind fun v4=>
 (zi9 k (v2,(slC (Option.some v1) (Option.none) v4 (List.length v0) v0),())).bind fun v5=>
 (bif decide (v5.1<(0:Int)) then
  some (.inr (v3,()))
 else
  room ((List.length v3)+(List.length ([(v5.1,v1,(w64 (v1+v5.2.1)),())]:List za))) 24 (some (.inl (v0,(w64 (v1+v5.2.1)),v2,(v3++([(v5.1,v1,(w64 (v1+v5.2.1)),())]:List za)),()))))
def zjc (k:Nat):ql×(List Int)×Unit→(Option ((List za)×Unit)):=fun (a0,a1,_)=>
 (iter k (zfs k) (a1,(0:Int),a0,([]:List za),())).bind fun (v6,_)=>
 some (v6,())
theorem zl5 (k:Nat):FOk (S:=SyS) prog 133 [.val (.st 6),.val (.list (.int .u8))] [.own (.st 19)] (zjc k):=FOk.mk (k:=k) [.l ⟨[e 1 (.list (.int .u8)),p 2 1,(5,.b (.whole 2)),e 6 (.int .i64)],[(1,.box none [.one 1 (.st 6)]),(2,.row 1 (.st 19))],3,false⟩ [(.ret,⟨[(4,.b (.whole 1))],[(1,.row 1 (.st 19))],2,false⟩)],.e 50 (.st 19),.e 51 (.st 19)] [enP (zl2 k)] (by kernel_rfl) fun _=>by kernel_rfl
def zfr (k:Nat):LB ((List za)×Int×GrT×(List za)×Unit) ((List za)×Unit):=fun (v0,v1,v2,v3,_)=>
 (bif decide (v1<(v0.length:Int)) then
  ((at? v0 v1).bind fun v4=>
   (bif decide (v4.1<(0:Int)) then
    some (v0,v1,true,v2,v3,())
   else
    (at? v0 v1).bind fun v5=>
    (bif decide (v5.1≥(v2.1.length:Int)) then
     some (v0,v1,true,v2,v3,())
    else
     (at? v0 v1).bind fun v6=>
     (at? v2.1 v6.1).bind fun v7=>
     some (v0,v1,(!v7.2.2.1),v2,v3,())))).bind fun (v8,v9,v10,v11,v12,_)=>
  ((bif v10 then
    (at? v8 v9).bind fun v13=>
    room ((List.length v12)+(List.length ([v13]:List za))) 24 (some (v8,v9,v11,(v12++([v13]:List za)),()))
   else
    some (v8,v9,v11,v12,()))).bind fun (v14,v15,v16,v17,_)=>
  some (.inl (v14,(w64 (v15+(1:Int))),v16,v17,()))
 else
  some (.inr (v3,())))
def zjb (k:Nat):GrT×(List qy)×Unit→(Option ((List za)×Unit)):=fun (a0,a1,_)=>
 (iter k (zfr k) (a1,(0:Int),a0,([]:List za),())).bind fun (v18,_)=>
 some (v18,())
theorem zl4 (k:Nat):FOk (S:=SyS) prog 134 [.val (.st 4),.val (.list (.st 19))] [.own (.st 19)] (zjb k):=FOk.mk (k:=k) [.l ⟨[e 1 (.list (.st 19)),p 2 1,(5,.b (.whole 2)),e 6 (.int .i64)],[(1,.box none [.one 1 (.st 4)]),(2,.row 1 (.st 19))],3,false⟩ [(.exit 0,⟨[(5,.b (.whole 1))],[(1,.row 1 (.st 19))],2,false⟩)],.c 28 [(.normal,⟨[e 1 (.list (.st 19)),p 2 1,(5,.b (.whole 2)),e 6 (.int .i64),e 42 .bool],[(1,.box none [.one 1 (.st 4)]),(2,.row 1 (.st 19))],3,false⟩)],.c 60 [(.normal,⟨[e 1 (.list (.st 19)),p 2 1,(5,.b (.whole 2)),e 6 (.int .i64)],[(1,.box none [.one 1 (.st 4)]),(2,.row 1 (.st 19))],3,false⟩)],.e 67 (.st 19),.e 68 (.st 19)] [] (by kernel_rfl) fun _=>by kernel_rfl
def zfh (k:Nat):LB ((List Int)×Int×Int×Int×Int×Int×Int×GrT×(List za)×(List (List (List Bool)))×(List Bool)×(List Bool)×Unit) ((List Int)×Int×Int×Int×Int×GrT×(List za)×(List (List (List Bool)))×(List Bool)×(List Bool)×Unit):=fun (v49,v50,v51,v52,v53,v54,v55,v56,v57,v58,v59,v60,_)=>
 (bif decide (v55≤v51) then
  ((at? v60 v55).bind fun v61=>
   (List.get?Internal v60 (Int.toNat v55)).bind fun v62=>
   (bif v62 then
    (at? v60 v55).bind fun v63=>
    (List.get?Internal v60 (Int.toNat v55)).bind fun v64=>
    some (v49,v50,v51,v52,v53,v54,v55,v56,v57,v58,v59,(List.set v60 (Int.toNat v55) true),())
   else
    (at? v58 v54).bind fun v65=>
    (List.get?Internal v58 (Int.toNat v54)).bind fun v66=>
    (List.get?Internal v58 (Int.toNat v54)).bind fun v67=>
    (at? v67 v53).bind fun v68=>
    (List.get?Internal v58 (Int.toNat v54)).bind fun v69=>
    (List.get?Internal v69 (Int.toNat v53)).bind fun v70=>
    (List.get?Internal v58 (Int.toNat v54)).bind fun v71=>
    (List.get?Internal v71 (Int.toNat v53)).bind fun v72=>
    (at? v72 v55).bind fun v73=>
    (List.get?Internal v58 (Int.toNat v54)).bind fun v74=>
    (List.get?Internal v74 (Int.toNat v53)).bind fun v75=>
    (List.get?Internal v75 (Int.toNat v55)).bind fun v76=>
    (at? v60 v55).bind fun v77=>
    (List.get?Internal v60 (Int.toNat v55)).bind fun v78=>
    some (v49,v50,v51,v52,v53,v54,v55,v56,v57,v58,v59,(List.set v60 (Int.toNat v55) v76),()))).bind fun (v79,v80,v81,v82,v83,v84,v85,v86,v87,v88,v89,v90,_)=>
  some (.inl (v79,v80,v81,v82,v83,v84,(w64 (v85+(1:Int))),v86,v87,v88,v89,v90,()))
 else
  some (.inr (v49,v50,v51,v52,v53,v56,v57,v58,v59,v60,())))
def zfi (k:Nat):LB ((List Int)×Int×Int×Int×Int×GrT×(List za)×(List (List (List Bool)))×(List Bool)×(List Bool)×Unit) ((List Int)×Int×Int×Int×GrT×(List za)×(List (List (List Bool)))×(List Bool)×Unit):=fun (v12,v13,v14,v15,v16,v17,v18,v19,v20,v21,_)=>
 (bif decide (v16≤v14) then
  ((at? v20 v16).bind fun v22=>
   (List.get?Internal v20 (Int.toNat v16)).bind fun v23=>
   (bif (!v23) then
    some (v12,v13,v14,v15,v16,v17,v18,v19,v20,v21,())
   else
    (at? v12 v15).bind fun v24=>
    (bif decide (v24<(0:Int)) then
     ((bif decide (v16<v14) then
       (at? v18 v16).bind fun v25=>
       some (v12,v13,v14,v15,v16,(v25.1==(w64 ((-(1:Int))-v24))),v17,v18,v19,v20,v21,())
      else
       some (v12,v13,v14,v15,v16,false,v17,v18,v19,v20,v21,()))).bind fun (v26,v27,v28,v29,v30,v31,v32,v33,v34,v35,v36,_)=>
     ((bif v31 then
       (at? v36 (w64 (v30+(1:Int)))).bind fun v37=>
       (List.get?Internal v36 (Int.toNat (w64 (v30+(1:Int))))).bind fun v38=>
       some (v26,v27,v28,v29,v30,v32,v33,v34,v35,(List.set v36 (Int.toNat (w64 (v30+(1:Int)))) true),())
      else
       some (v26,v27,v28,v29,v30,v32,v33,v34,v35,v36,()))).bind fun (v39,v40,v41,v42,v43,v44,v45,v46,v47,v48,_)=>
     some (v39,v40,v41,v42,v43,v44,v45,v46,v47,v48,())
    else
     (iter k (zfh k) (v12,v13,v14,v15,v16,v24,v16,v17,v18,v19,v20,v21,())).bind fun (v91,v92,v93,v94,v95,v96,v97,v98,v99,v100,_)=>
     some (v91,v92,v93,v94,v95,v96,v97,v98,v99,v100,())))).bind fun (v101,v102,v103,v104,v105,v106,v107,v108,v109,v110,_)=>
  some (.inl (v101,v102,v103,v104,(w64 (v105+(1:Int))),v106,v107,v108,v109,v110,()))
 else
  some (.inr (v12,v13,v14,v15,v17,v18,v19,v21,())))
def zka (k:Nat):LB ((List Int)×Int×Int×Int×GrT×(List za)×(List (List (List Bool)))×(List Bool)×Unit) (GrT×(List za)×(List (List (List Bool)))×(List Bool)×Unit):=fun (v3,v4,v5,v6,v7,v8,v9,v10,_)=>
 (bif decide (v6<(v3.length:Int)) then
  (mkS 1 (w64 (v5+(1:Int)))).bind fun v11=>
  (iter k (zfi k) (v3,v4,v5,v6,v4,v7,v8,v9,v10,(List.replicate v11 false),())).bind fun (v111,v112,v113,v114,v115,v116,v117,v118,_)=>
  some (.inl (v111,v112,v113,(w64 (v114+(1:Int))),v115,v116,v117,v118,()))
 else
  some (.inr (v7,v8,v9,v10,())))
def zeD (k:Nat):List Int×Int×GrT×List qy×List (List (List Bool))×Unit→(Option (GrT×(List za)×(List (List (List Bool)))×(List Bool)×Unit)):=fun (a0,a1,a2,a3,a4,_)=>
 (mkS 1 (w64 ((a3.length:Int)+(1:Int)))).bind fun v0=>
 (at? (List.replicate v0 false) a1).bind fun v1=>
 (List.get?Internal (List.replicate v0 false) (Int.toNat a1)).bind fun v2=>
 (iter k (zka k) (a0,a1,(a3.length:Int),(0:Int),a2,a3,a4,(List.set (List.replicate v0 false) (Int.toNat a1) true),())).bind fun (v119,v120,v121,v122,_)=>
 some (v119,v120,v121,v122,())
theorem zig (k:Nat):HOk (S:=SyS) prog 139 zlu zlt (zeD k):=HOk.mk (k:=k) [.l ⟨[p 0 0,e 1 (.list (.int .i64)),e 2 (.int .i64),e 7 (.int .i64),(8,.b (.whole 2)),e 9 (.int .i64)],[(0,.box (some 0) [.one 1 (.st 4),.one 1 (.list (.st 19)),.whole 1]),(1,.row 1 (.own (.own .bool))),(2,.row 1 .bool)],3,false⟩ [(.exit 0,⟨[p 0 0,(8,.b (.whole 2))],[(0,.box (some 0) [.one 1 (.st 4),.one 1 (.list (.st 19)),.whole 1]),(1,.row 1 (.own (.own .bool))),(2,.row 1 .bool)],3,false⟩)],.l ⟨[p 0 0,e 1 (.list (.int .i64)),e 2 (.int .i64),e 7 (.int .i64),(8,.b (.whole 2)),e 9 (.int .i64),(10,.b (.whole 3)),e 11 (.int .i64)],[(0,.box (some 0) [.one 1 (.st 4),.one 1 (.list (.st 19)),.whole 1]),(1,.row 1 (.own (.own .bool))),(2,.row 1 .bool),(3,.row 1 .bool)],4,false⟩ [(.exit 2,⟨[p 0 0,e 1 (.list (.int .i64)),e 2 (.int .i64),e 7 (.int .i64),e 9 (.int .i64),(10,.b (.whole 2))],[(0,.box (some 0) [.one 1 (.st 4),.one 1 (.list (.st 19)),.whole 1]),(1,.row 1 (.own (.own .bool))),(2,.row 1 .bool)],3,false⟩)],.c 69 [(.normal,⟨[p 0 0,e 1 (.list (.int .i64)),e 2 (.int .i64),e 7 (.int .i64),(8,.b (.whole 2)),e 9 (.int .i64),(10,.b (.whole 3)),e 11 (.int .i64)],[(0,.box (some 0) [.one 1 (.st 4),.one 1 (.list (.st 19)),.whole 1]),(1,.row 1 (.own (.own .bool))),(2,.row 1 .bool),(3,.row 1 .bool)],4,false⟩)],.c 97 [(.normal,⟨[p 0 0,e 1 (.list (.int .i64)),e 2 (.int .i64),e 7 (.int .i64),(8,.b (.whole 2)),e 9 (.int .i64),(10,.b (.whole 3)),e 11 (.int .i64),e 66 .bool],[(0,.box (some 0) [.one 1 (.st 4),.one 1 (.list (.st 19)),.whole 1]),(1,.row 1 (.own (.own .bool))),(2,.row 1 .bool),(3,.row 1 .bool)],4,false⟩)],.c 115 [(.normal,⟨[p 0 0,e 1 (.list (.int .i64)),e 2 (.int .i64),e 7 (.int .i64),(8,.b (.whole 2)),e 9 (.int .i64),(10,.b (.whole 3)),e 11 (.int .i64)],[(0,.box (some 0) [.one 1 (.st 4),.one 1 (.list (.st 19)),.whole 1]),(1,.row 1 (.own (.own .bool))),(2,.row 1 .bool),(3,.row 1 .bool)],4,false⟩)],.l ⟨[p 0 0,e 1 (.list (.int .i64)),e 2 (.int .i64),e 7 (.int .i64),(8,.b (.whole 2)),e 9 (.int .i64),(10,.b (.whole 3)),e 11 (.int .i64),e 12 (.int .i64),e 13 (.int .i64)],[(0,.box (some 0) [.one 1 (.st 4),.one 1 (.list (.st 19)),.whole 1]),(1,.row 1 (.own (.own .bool))),(2,.row 1 .bool),(3,.row 1 .bool)],4,false⟩ [(.exit 4,⟨[p 0 0,e 1 (.list (.int .i64)),e 2 (.int .i64),e 7 (.int .i64),(8,.b (.whole 2)),e 9 (.int .i64),(10,.b (.whole 3)),e 11 (.int .i64)],[(0,.box (some 0) [.one 1 (.st 4),.one 1 (.list (.st 19)),.whole 1]),(1,.row 1 (.own (.own .bool))),(2,.row 1 .bool),(3,.row 1 .bool)],4,false⟩)],.c 140 [(.normal,⟨[p 0 0,e 1 (.list (.int .i64)),e 2 (.int .i64),e 7 (.int .i64),(8,.b (.whole 2)),e 9 (.int .i64),(10,.b (.whole 3)),e 11 (.int .i64),e 12 (.int .i64),e 13 (.int .i64)],[(0,.box (some 0) [.one 1 (.st 4),.one 1 (.list (.st 19)),.whole 1]),(1,.row 1 (.own (.own .bool))),(2,.row 1 .bool),(3,.row 1 .bool)],4,false⟩)]] [] (by kernel_rfl) (by kernel_rfl) fun _=>by kernel_rfl
def zfo (k:Nat):LB (Int×Int×Int×GrT×(List za)×(List (List (List Bool)))×(List (List Bool))×Unit) (Int×Int×GrT×(List za)×(List (List (List Bool)))×(List (List Bool))×Unit):=fun (v6,v7,v8,v9,v10,v11,v12,_)=>
 (bif decide (v8≤v6) then
  (mkS 1 (w64 (v6+(1:Int)))).bind fun v13=>
  (at? v12 v8).bind fun v14=>
  (List.get?Internal v12 (Int.toNat v8)).bind fun v15=>
  some (.inl (v6,v7,(w64 (v8+(1:Int))),v9,v10,v11,(List.set v12 (Int.toNat v8) (List.replicate v13 false)),()))
 else
  some (.inr (v6,v7,v9,v10,v11,v12,())))
def zfp (k:Nat):LB (Int×Int×zS) (Int×zS):=fun (v0,v1,v2,v3,v4,_)=>
 (bif decide (v1<(v2.2.1.length:Int)) then
  (mkS 24 (w64 (v0+(1:Int)))).bind fun v5=>
  (iter k (zfo k) (v0,v1,(0:Int),v2,v3,v4,(List.replicate v5 ([]:List Bool)),())).bind fun (v16,v17,v18,v19,v20,v21,_)=>
  (bif (List.isEmpty ([v21]:List (List (List Bool)))) then
   (Option.none)
  else
   room ((List.length v20)+(List.length ([v21]:List (List (List Bool))))) 24 (some (.inl (v16,(w64 (v17+(1:Int))),v18,v19,(v20++([v21]:List (List (List Bool)))),()))))
 else
  some (.inr (v0,v2,v3,v4,())))
def zfk (k:Nat):LB (Int×Bool×Int×Int×Int×GrT×(List za)×(List (List (List Bool)))×RuT×(List Bool)×Unit) (Int×Bool×Int×Int×GrT×(List za)×(List (List (List Bool)))×RuT×Unit):=fun (v50,v51,v52,v53,v54,v55,v56,v57,v58,v59,_)=>
 (bif decide (v54≤v50) then
  ((at? v59 v54).bind fun v60=>
   (List.get?Internal v59 (Int.toNat v54)).bind fun v61=>
   (bif v61 then
    (at? v57 v58.1).bind fun v62=>
    (List.get?Internal v57 (Int.toNat v58.1)).bind fun v63=>
    (List.get?Internal v57 (Int.toNat v58.1)).bind fun v64=>
    (at? v64 v53).bind fun v65=>
    (List.get?Internal v57 (Int.toNat v58.1)).bind fun v66=>
    (List.get?Internal v66 (Int.toNat v53)).bind fun v67=>
    (List.get?Internal v57 (Int.toNat v58.1)).bind fun v68=>
    (List.get?Internal v68 (Int.toNat v53)).bind fun v69=>
    (at? v69 v54).bind fun v70=>
    (List.get?Internal v57 (Int.toNat v58.1)).bind fun v71=>
    (List.get?Internal v71 (Int.toNat v53)).bind fun v72=>
    (List.get?Internal v72 (Int.toNat v54)).bind fun v73=>
    some (v50,v51,v52,v53,v54,(!v73),v55,v56,v57,v58,v59,())
   else
    some (v50,v51,v52,v53,v54,false,v55,v56,v57,v58,v59,()))).bind fun (v74,v75,v76,v77,v78,v79,v80,v81,v82,v83,v84,_)=>
  ((bif v79 then
    (at? v82 v83.1).bind fun v85=>
    (List.get?Internal v82 (Int.toNat v83.1)).bind fun v86=>
    (List.get?Internal v82 (Int.toNat v83.1)).bind fun v87=>
    (at? v87 v77).bind fun v88=>
    (List.get?Internal v82 (Int.toNat v83.1)).bind fun v89=>
    (List.get?Internal v89 (Int.toNat v77)).bind fun v90=>
    (List.get?Internal v82 (Int.toNat v83.1)).bind fun v91=>
    (List.get?Internal v91 (Int.toNat v77)).bind fun v92=>
    (at? v92 v78).bind fun v93=>
    (List.get?Internal v82 (Int.toNat v83.1)).bind fun v94=>
    (List.get?Internal v94 (Int.toNat v77)).bind fun v95=>
    (List.get?Internal v95 (Int.toNat v78)).bind fun v96=>
    some (v74,true,v76,v77,v78,v80,v81,(List.set v82 (Int.toNat v83.1) (List.set v94 (Int.toNat v77) (List.set v95 (Int.toNat v78) true))),v83,v84,())
   else
    some (v74,v75,v76,v77,v78,v80,v81,v82,v83,v84,()))).bind fun (v97,v98,v99,v100,v101,v102,v103,v104,v105,v106,_)=>
  some (.inl (v97,v98,v99,v100,(w64 (v101+(1:Int))),v102,v103,v104,v105,v106,()))
 else
  some (.inr (v50,v51,v52,v53,v55,v56,v57,v58,())))
def zfl (k:Nat):LB (Int×Bool×Int×Int×GrT×(List za)×(List (List (List Bool)))×RuT×Unit) (Int×Bool×Int×zS):=fun (v38,v39,v40,v41,v42,v43,v44,v45,_)=>
 (bif decide (v41≤v38) then
  (zeD k (v45.2.1,v41,v42,v43,v44,())).bind fun (v46,v47,v48,v49,_)=>
  (iter k (zfk k) (v38,v39,v40,v41,v41,v46,v47,v48,v45,v49,())).bind fun (v107,v108,v109,v110,v111,v112,v113,v114,_)=>
  some (.inl (v107,v108,v109,(w64 (v110+(1:Int))),v111,v112,v113,v114,()))
 else
  some (.inr (v38,v39,v40,v42,v43,v44,())))
def zfm (k:Nat):LB (Int×Bool×Int×zS) (Int×Bool×zS):=fun (v31,v32,v33,v34,v35,v36,_)=>
 (bif decide (v33<(v34.2.2.2.1.length:Int)) then
  (at? v34.2.2.2.1 v33).bind fun v37=>
  (iter k (zfl k) (v31,v32,v33,(0:Int),v34,v35,v36,v37,())).bind fun (v115,v116,v117,v118,v119,v120,_)=>
  some (.inl (v115,v116,(w64 (v117+(1:Int))),v118,v119,v120,()))
 else
  some (.inr (v31,v32,v34,v35,v36,())))
def zfn (k:Nat):LB (Int×Bool×zS) zS:=fun (v26,v27,v28,v29,v30,_)=>
 (bif v27 then
  (iter k (zfm k) (v26,false,(0:Int),v28,v29,v30,())).bind fun (v121,v122,v123,v124,v125,_)=>
  some (.inl (v121,v122,v123,v124,v125,()))
 else
  some (.inr (v28,v29,v30,())))
def zi8 (k:Nat):GrT×List qy×Unit→(Option zS):=fun (a0,a1,_)=>
 (iter k (zfp k) ((a1.length:Int),(0:Int),a0,a1,([]:List (List (List Bool))),())).bind fun (v22,v23,v24,v25,_)=>
 (iter k (zfn k) (v22,true,v23,v24,v25,())).bind fun v126=>
 some (v126.1,v126.2.1,v126.2.2.1,())
theorem zl1 (k:Nat):HOk (S:=SyS) prog 137 zlE zlD (zi8 k):=HOk.mk (k:=k) [.l ⟨[p 0 0,e 2 (.int .i64),e 3 (.int .i64)],[(0,.box (some 0) [.one 1 (.st 4),.one 1 (.list (.st 19)),.whole 1]),(1,.row 1 (.own (.own .bool)))],2,false⟩ [(.exit 0,⟨[p 0 0,e 2 (.int .i64)],[(0,.box (some 0) [.one 1 (.st 4),.one 1 (.list (.st 19)),.whole 1]),(1,.row 1 (.own (.own .bool)))],2,false⟩)],.e 35 (.own .bool),.l ⟨[p 0 0,e 2 (.int .i64),e 3 (.int .i64),(4,.b (.whole 2)),e 5 (.int .i64)],[(0,.box (some 0) [.one 1 (.st 4),.one 1 (.list (.st 19)),.whole 1]),(1,.row 1 (.own (.own .bool))),(2,.row 1 (.own .bool))],3,false⟩ [(.exit 2,⟨[p 0 0,e 2 (.int .i64),e 3 (.int .i64),(4,.b (.whole 2))],[(0,.box (some 0) [.one 1 (.st 4),.one 1 (.list (.st 19)),.whole 1]),(1,.row 1 (.own (.own .bool))),(2,.row 1 (.own .bool))],3,false⟩)],.e 62 (.own .bool),.e 76 (.own (.own .bool)),.e 77 (.own (.own .bool)),.l ⟨[p 0 0,e 2 (.int .i64),e 6 .bool],[(0,.box (some 0) [.one 1 (.st 4),.one 1 (.list (.st 19)),.whole 1]),(1,.row 1 (.own (.own .bool)))],2,false⟩ [(.exit 4,⟨[p 0 0],[(0,.box (some 0) [.one 1 (.st 4),.one 1 (.list (.st 19)),.whole 1]),(1,.row 1 (.own (.own .bool)))],2,false⟩)],.l ⟨[p 0 0,e 2 (.int .i64),e 6 .bool,e 7 (.int .i64)],[(0,.box (some 0) [.one 1 (.st 4),.one 1 (.list (.st 19)),.whole 1]),(1,.row 1 (.own (.own .bool)))],2,false⟩ [(.exit 6,⟨[p 0 0,e 2 (.int .i64),e 6 .bool],[(0,.box (some 0) [.one 1 (.st 4),.one 1 (.list (.st 19)),.whole 1]),(1,.row 1 (.own (.own .bool)))],2,false⟩)],.l ⟨[p 0 0,e 2 (.int .i64),e 6 .bool,e 7 (.int .i64),p 8 2,e 9 (.int .i64)],[(0,.box (some 0) [.one 1 (.st 4),.one 1 (.list (.st 19)),.whole 1]),(1,.row 1 (.own (.own .bool))),(2,.box none [.one 1 (.st 3)])],3,false⟩ [(.exit 8,⟨[p 0 0,e 2 (.int .i64),e 6 .bool,e 7 (.int .i64)],[(0,.box (some 0) [.one 1 (.st 4),.one 1 (.list (.st 19)),.whole 1]),(1,.row 1 (.own (.own .bool)))],2,false⟩)],.h ⟨[(0,some 0),(1,none)],⟨[(0,.b (.whole 5))],[(0,.box (some 0) [.one 1 (.st 4),.one 1 (.list (.st 19)),.whole 4]),(4,.row 1 (.own (.own .bool))),(5,.row 1 .bool)],6,false⟩⟩,.l ⟨[p 0 0,e 2 (.int .i64),e 6 .bool,e 7 (.int .i64),p 8 2,e 9 (.int .i64),(10,.b (.whole 3)),e 11 (.int .i64)],[(0,.box (some 0) [.one 1 (.st 4),.one 1 (.list (.st 19)),.whole 1]),(1,.row 1 (.own (.own .bool))),(2,.box none [.one 1 (.st 3)]),(3,.row 1 .bool)],4,false⟩ [(.exit 10,⟨[p 0 0,e 2 (.int .i64),e 6 .bool,e 7 (.int .i64),p 8 2,e 9 (.int .i64)],[(0,.box (some 0) [.one 1 (.st 4),.one 1 (.list (.st 19)),.whole 1]),(1,.row 1 (.own (.own .bool))),(2,.box none [.one 1 (.st 3)])],3,false⟩)],.c 181 [(.normal,⟨[p 0 0,e 2 (.int .i64),e 6 .bool,e 7 (.int .i64),p 8 2,e 9 (.int .i64),(10,.b (.whole 3)),e 11 (.int .i64),e 106 .bool],[(0,.box (some 0) [.one 1 (.st 4),.one 1 (.list (.st 19)),.whole 1]),(1,.row 1 (.own (.own .bool))),(2,.box none [.one 1 (.st 3)]),(3,.row 1 .bool)],4,false⟩)],.c 204 [(.normal,⟨[p 0 0,e 2 (.int .i64),e 6 .bool,e 7 (.int .i64),p 8 2,e 9 (.int .i64),(10,.b (.whole 3)),e 11 (.int .i64)],[(0,.box (some 0) [.one 1 (.st 4),.one 1 (.list (.st 19)),.whole 1]),(1,.row 1 (.own (.own .bool))),(2,.box none [.one 1 (.st 3)]),(3,.row 1 .bool)],4,false⟩)]] [enH (zig k)] (by kernel_rfl) (by kernel_rfl) fun _=>by kernel_rfl
abbrev JR:=((List Int)×Int×Int×Int×Int×zS)→(Option (Bool×GrT×(List za)×(List (List (List Bool)))×(List zb)×Unit))
def zfj (k:Nat):LB (Int×Int×GrT×(List za)×(List (List (List Bool)))×(List zb)×zb) (GrT×(List za)×(List (List (List Bool)))×(List zb)×zb):=fun (v26,v27,v28,v29,v30,v31,v32,v33,v34,v35,v36,_)=>
 (bif decide (v27<(v31.length:Int)) then
  ((bif (v27==(0:Int)) then
    (at? v31 v27).bind fun v37=>
    (List.get?Internal v31 (Int.toNat v27)).bind fun v38=>
    some (v26,v27,v28,v29,v30,v31,v32,v33,v34,v38.2.2.2.1,v36,())
   else
    some (v26,v27,v28,v29,v30,v31,v32,v33,v34,v35,v36,()))).bind fun (v39,v40,v41,v42,v43,v44,v45,v46,v47,v48,v49,_)=>
  (at? v44 v40).bind fun v50=>
  (List.get?Internal v44 (Int.toNat v40)).bind fun v51=>
  ((bif (v51.1==(w64 (v39+(1:Int)))) then
    (at? v44 v40).bind fun v52=>
    (List.get?Internal v44 (Int.toNat v40)).bind fun v53=>
    some (v39,v40,v41,v42,v43,v44,v45,v46,v47,v48,v53.2.2.2.2.1,())
   else
    some (v39,v40,v41,v42,v43,v44,v45,v46,v47,v48,v49,()))).bind fun (v54,v55,v56,v57,v58,v59,v60,v61,v62,v63,v64,_)=>
  some (.inl (v54,(w64 (v55+(1:Int))),v56,v57,v58,v59,v60,v61,v62,v63,v64,()))
 else
  some (.inr (v28,v29,v30,v31,v32,v33,v34,v35,v36,())))
def zkb (k:Nat)(e:JR):LB (Int×Int×Int×Int×Int×Int×zS) (zS ⊕ (GrT×(List za)×(List (List (List Bool)))×(List zb)×Unit)):=fun (v0,v1,v2,v3,v4,v5,v6,v7,v8,_)=>
 ((bif decide (v5<(v6.2.2.2.1.length:Int)) then
   some (v0,v1,v2,v3,v4,v5,decide (v3<(200:Int)),v6,v7,v8,())
  else
   some (v0,v1,v2,v3,v4,v5,false,v6,v7,v8,()))).bind fun (v9,v10,v11,v12,v13,v14,v15,v16,v17,v18,_)=>
 (bif v15 then
  ((at? v16.2.2.2.1 v14).bind fun v19=>
   (bif (v19.1 != v9) then
    some (.inl (v9,v10,v11,v12,v13,v14,v16,v17,v18,()))
   else
    (at? v16.2.2.2.1 v14).bind fun v20=>
    (e (v20.2.1,v10,v11,(w64 (v12+(1:Int))),v13,v16,v17,v18,())).bind fun (v21,v22,v23,v24,v25,_)=>
    (bif (!v21) then
     some (.inl (v9,v10,v11,v12,v13,v14,v22,v23,v24,()))
    else
     (iter k (zfj k) (v12,(0:Int),v22,v23,v24,v25,v12,v14,(-(1:Int)),v13,v13,())).bind fun (v65,v66,v67,v68,v69,v70,v71,v72,v73,_)=>
     room ((List.length ([(v69,v70,v71,v72,v73,())]:List zb))+(List.length v68)) 40 (some (.inr (v65,v66,v67,(([(v69,v70,v71,v72,v73,())]:List zb)++v68),()))))):Option ((Int×Int×Int×Int×Int×Int×zS) ⊕ (GrT×(List za)×(List (List (List Bool)))×(List zb)×Unit))).bind fun
  | .inl (v74,v75,v76,v77,v78,v79,v80,v81,v82,_)=>some (.inl (v74,v75,v76,v77,v78,(w64 (v79+(1:Int))),v80,v81,v82,()))
  | .inr (v83,v84,v85,v86,_)=>some (.inr (.inr (v83,v84,v85,v86,())))
 else
  some (.inr (.inl (v16,v17,v18,()))))
def zcA (k:Nat)(e:JR):Int×Int×Int×Int×Int×GrT×List qy×List (List (List Bool))×Unit→(Option (GrT×(List za)×(List (List (List Bool)))×(List zb)×Unit)):=fun (a0,a1,a2,a3,a4,a5,a6,a7,_)=>
 (iter k (zkb k e) (a0,a1,a2,a3,a4,(0:Int),a5,a6,a7,())).bind fun
 | .inl v87=>some (v87.1,v87.2.1,v87.2.2.1,([]:List zb),())
 | .inr (v88,v89,v90,v91,_)=>some (v88,v89,v90,v91,())
theorem ze5 (k:Nat)(e1:JR)(h1:HOk (S:=SyS) prog 140 zag zaf e1):HOk (S:=SyS) prog 138 zh8 zh7 (zcA k e1):=HOk.mk (k:=k) [.l ⟨[p 0 0,e 1 (.int .i64),e 2 (.int .i64),e 3 (.int .i64),e 4 (.int .i64),e 5 (.int .i64),e 13 (.int .i64)],[(0,.box (some 0) [.one 1 (.st 4),.one 1 (.list (.st 19)),.whole 1]),(1,.row 1 (.own (.own .bool)))],2,false⟩ [(.exit 0,⟨[p 0 0],[(0,.box (some 0) [.one 1 (.st 4),.one 1 (.list (.st 19)),.whole 1]),(1,.row 1 (.own (.own .bool)))],2,false⟩),(.ret,⟨[p 0 0,(12,.b (.whole 2))],[(0,.box (some 0) [.one 1 (.st 4),.one 1 (.list (.st 19)),.whole 1]),(1,.row 1 (.own (.own .bool))),(2,.row 1 (.st 17))],3,false⟩)],.c 13 [(.normal,⟨[p 0 0,e 1 (.int .i64),e 2 (.int .i64),e 3 (.int .i64),e 4 (.int .i64),e 5 (.int .i64),e 13 (.int .i64),e 29 .bool],[(0,.box (some 0) [.one 1 (.st 4),.one 1 (.list (.st 19)),.whole 1]),(1,.row 1 (.own (.own .bool)))],2,false⟩)],.c 29 [(.normal,⟨[p 0 0,e 1 (.int .i64),e 2 (.int .i64),e 3 (.int .i64),e 4 (.int .i64),e 5 (.int .i64),e 13 (.int .i64)],[(0,.box (some 0) [.one 1 (.st 4),.one 1 (.list (.st 19)),.whole 1]),(1,.row 1 (.own (.own .bool)))],2,false⟩),(.ret,⟨[p 0 0,(12,.b (.whole 2))],[(0,.box (some 0) [.one 1 (.st 4),.one 1 (.list (.st 19)),.whole 1]),(1,.row 1 (.own (.own .bool))),(2,.row 1 (.st 17))],3,false⟩)],.h ⟨[(0,some 0),(1,none)],⟨[(0,.b (.whole 4)),e 1 .bool],[(0,.box (some 0) [.one 1 (.st 4),.one 1 (.list (.st 19)),.whole 3]),(3,.row 1 (.own (.own .bool))),(4,.row 1 (.st 17))],5,false⟩⟩,.l ⟨[p 0 0,e 4 (.int .i64),(14,.b (.whole 2)),p 16 3,e 17 (.int .i64)],[(0,.box (some 0) [.one 1 (.st 4),.one 1 (.list (.st 19)),.whole 1]),(1,.row 1 (.own (.own .bool))),(2,.row 1 (.st 17)),(3,.box none [.one 1 (.int .i64),.one 1 (.int .i64),.one 1 (.int .i64),.one 1 (.int .i64),.one 1 (.int .i64)])],4,false⟩ [(.exit 2,⟨[p 0 0,(14,.b (.whole 2)),p 16 3],[(0,.box (some 0) [.one 1 (.st 4),.one 1 (.list (.st 19)),.whole 1]),(1,.row 1 (.own (.own .bool))),(2,.row 1 (.st 17)),(3,.box none [.one 1 (.int .i64),.one 1 (.int .i64),.one 1 (.int .i64),.one 1 (.int .i64),.one 1 (.int .i64)])],4,false⟩)],.c 111 [(.normal,⟨[p 0 0,e 4 (.int .i64),(14,.b (.whole 2)),p 16 3,e 17 (.int .i64)],[(0,.box (some 0) [.one 1 (.st 4),.one 1 (.list (.st 19)),.whole 1]),(1,.row 1 (.own (.own .bool))),(2,.row 1 (.st 17)),(3,.box none [.one 1 (.int .i64),.one 1 (.int .i64),.one 1 (.int .i64),.one 1 (.int .i64),.one 1 (.int .i64)])],4,false⟩)],.c 132 [(.normal,⟨[p 0 0,e 4 (.int .i64),(14,.b (.whole 2)),p 16 3,e 17 (.int .i64)],[(0,.box (some 0) [.one 1 (.st 4),.one 1 (.list (.st 19)),.whole 1]),(1,.row 1 (.own (.own .bool))),(2,.row 1 (.st 17)),(3,.box none [.one 1 (.int .i64),.one 1 (.int .i64),.one 1 (.int .i64),.one 1 (.int .i64),.one 1 (.int .i64)])],4,false⟩)],.e 150 (.st 17),.e 152 (.st 17)] [enH h1] (by kernel_rfl) (by kernel_rfl) fun _=>by kernel_rfl
def zfg (k:Nat)(e:JR):LB ((List Int)×Int×Int×Int×Int×Int×Int×zS) (zS ⊕ (Bool×GrT×(List za)×(List (List (List Bool)))×(List zb)×Unit)):=fun (v41,v42,v43,v44,v45,v46,v47,v48,v49,v50,_)=>
 (bif decide (v47≤v43) then
  ((at? v50 v46).bind fun v51=>
   (List.get?Internal v50 (Int.toNat v46)).bind fun v52=>
   (List.get?Internal v50 (Int.toNat v46)).bind fun v53=>
   (at? v53 v42).bind fun v54=>
   (List.get?Internal v50 (Int.toNat v46)).bind fun v55=>
   (List.get?Internal v55 (Int.toNat v42)).bind fun v56=>
   (List.get?Internal v50 (Int.toNat v46)).bind fun v57=>
   (List.get?Internal v57 (Int.toNat v42)).bind fun v58=>
   (at? v58 v47).bind fun v59=>
   (List.get?Internal v50 (Int.toNat v46)).bind fun v60=>
   (List.get?Internal v60 (Int.toNat v42)).bind fun v61=>
   (List.get?Internal v61 (Int.toNat v47)).bind fun v62=>
   (bif (!v62) then
    some (v41,v42,v43,v44,v45,v46,v47,true,v48,v49,v50,())
   else
    (hi? (List.length v41) (1:Int)).bind fun v63=>
    (zeD k ((slC (Option.some (1:Int)) (Option.none) v63 (List.length v41) v41),v47,v48,v49,v50,())).bind fun (v64,v65,v66,v67,_)=>
    (at? v67 v43).bind fun v68=>
    (List.get?Internal v67 (Int.toNat v43)).bind fun v69=>
    some (v41,v42,v43,v44,v45,v46,v47,(!v69),v64,v65,v66,()))).bind fun (v70,v71,v72,v73,v74,v75,v76,v77,v78,v79,v80,_)=>
  (bif v77 then
   some (.inl (v70,v71,v72,v73,v74,v75,(w64 (v76+(1:Int))),v78,v79,v80,()))
  else
   ((bif decide (v76>v71) then
     (at? v79 (w64 (v76-(1:Int)))).bind fun v81=>
     some (v70,v71,v72,v73,v74,v75,v76,v81.2.2.1,v78,v79,v80,())
    else
     some (v70,v71,v72,v73,v74,v75,v76,v74,v78,v79,v80,()))).bind fun (v82,v83,v84,v85,v86,v87,v88,v89,v90,v91,v92,_)=>
   (hi? (List.length v82) (1:Int)).bind fun v93=>
   (e ((slC (Option.some (1:Int)) (Option.none) v93 (List.length v82) v82),v88,v84,v85,v89,v90,v91,v92,())).bind fun (v94,v95,v96,v97,v98,_)=>
   (zcA k e (v87,v83,v88,v85,v86,v95,v96,v97,())).bind fun (v99,v100,v101,v102,_)=>
   room ((List.length v102)+(List.length v98)) 40 (some (.inr (.inr (v94,v99,v100,v101,(v102++v98),())))))
 else
  some (.inr (.inl (v48,v49,v50,()))))
def zcz (k:Nat)(e:JR):List Int×Int×Int×Int×Int×GrT×List qy×List (List (List Bool))×Unit→(Option (Bool×GrT×(List za)×(List (List (List Bool)))×(List zb)×Unit)):=fun (a0,a1,a2,a3,a4,a5,a6,a7,_)=>
 (bif ((a0.length:Int)==(0:Int)) then
  some ((a1==a2),a5,a6,a7,([]:List zb),())
 else
  (at? a0 (0:Int)).bind fun v0=>
  ((bif decide (v0<(0:Int)) then
    ((bif decide (a1≥a2) then
      some (a0,a1,a2,a3,v0,true,a5,a6,a7,())
     else
      (at? a6 a1).bind fun v1=>
      (bif (v1.1 != (w64 ((-(1:Int))-v0))) then
       some (a0,a1,a2,a3,v0,true,a5,a6,a7,())
      else
       (hi? (List.length a0) (1:Int)).bind fun v2=>
       (zeD k ((slC (Option.some (1:Int)) (Option.none) v2 (List.length a0) a0),(w64 (a1+(1:Int))),a5,a6,a7,())).bind fun (v3,v4,v5,v6,_)=>
       (at? v6 a2).bind fun v7=>
       (List.get?Internal v6 (Int.toNat a2)).bind fun v8=>
       some (a0,a1,a2,a3,v0,(!v8),v3,v4,v5,())))).bind fun (v9,v10,v11,v12,v13,v14,v15,v16,v17,_)=>
    (bif v14 then
     some (.inl (false,v15,v16,v17,([]:List zb),()))
    else
     (hi? (List.length v9) (1:Int)).bind fun v18=>
     (at? v16 v10).bind fun v19=>
     (e ((slC (Option.some (1:Int)) (Option.none) v18 (List.length v9) v9),(w64 (v10+(1:Int))),v11,v12,v19.2.2.1,v15,v16,v17,())).bind fun (v20,v21,v22,v23,v24,_)=>
     (at? v22 v10).bind fun v25=>
     (at? v22 v10).bind fun v26=>
     room ((List.length ([(v12,(-(1:Int)),(w64 ((-(1:Int))-v13)),v25.2.1,v26.2.2.1,())]:List zb))+(List.length v24)) 40 (some (.inl (v20,v21,v22,v23,(([(v12,(-(1:Int)),(w64 ((-(1:Int))-v13)),v25.2.1,v26.2.2.1,())]:List zb)++v24),()))))
   else
    some (.inr (a0,a1,a2,a3,a4,v0,a5,a6,a7,()))):Option ((Bool×GrT×(List za)×(List (List (List Bool)))×(List zb)×Unit) ⊕ ((List Int)×Int×Int×Int×Int×Int×zS))).bind fun
  | .inl (v27,v28,v29,v30,v31,_)=>some (v27,v28,v29,v30,v31,())
  | .inr (v32,v33,v34,v35,v36,v37,v38,v39,v40,_)=>(iter k (zfg k e) (v32,v33,v34,v35,v36,v37,v33,v38,v39,v40,())).bind fun
   | .inl v103=>some (false,v103.1,v103.2.1,v103.2.2.1,([]:List zb),())
   | .inr (v104,v105,v106,v107,v108,_)=>some (v104,v105,v106,v107,v108,()))
theorem zjy (k:Nat)(e1:JR)(h1:HOk (S:=SyS) prog 140 zag zaf e1):HOk (S:=SyS) prog 140 zag zaf (zcz k e1):=HOk.mk (k:=k) [.c 34 [(.ret,⟨[p 0 0,(12,.b (.whole 2)),e 13 .bool],[(0,.box (some 0) [.one 1 (.st 4),.one 1 (.list (.st 19)),.whole 1]),(1,.row 1 (.own (.own .bool))),(2,.row 1 (.st 17))],3,false⟩),(.normal,⟨[p 0 0,e 1 (.list (.int .i64)),e 2 (.int .i64),e 3 (.int .i64),e 4 (.int .i64),e 5 (.int .i64),e 14 (.int .i64)],[(0,.box (some 0) [.one 1 (.st 4),.one 1 (.list (.st 19)),.whole 1]),(1,.row 1 (.own (.own .bool)))],2,false⟩)],.c 37 [(.normal,⟨[p 0 0,e 1 (.list (.int .i64)),e 2 (.int .i64),e 3 (.int .i64),e 4 (.int .i64),e 14 (.int .i64),e 59 .bool],[(0,.box (some 0) [.one 1 (.st 4),.one 1 (.list (.st 19)),.whole 1]),(1,.row 1 (.own (.own .bool)))],2,false⟩)],.h ⟨[(1,some 0),(2,none)],⟨[(0,.b (.whole 5))],[(1,.box (some 0) [.one 1 (.st 4),.one 1 (.list (.st 19)),.whole 4]),(4,.row 1 (.own (.own .bool))),(5,.row 1 .bool)],6,false⟩⟩,.h ⟨[(0,some 0),(1,none)],⟨[(0,.b (.whole 4)),e 1 .bool],[(0,.box (some 0) [.one 1 (.st 4),.one 1 (.list (.st 19)),.whole 3]),(3,.row 1 (.own (.own .bool))),(4,.row 1 (.st 17))],5,false⟩⟩,.e 119 (.st 17),.e 121 (.st 17),.l ⟨[p 0 0,e 1 (.list (.int .i64)),e 2 (.int .i64),e 3 (.int .i64),e 4 (.int .i64),e 5 (.int .i64),e 14 (.int .i64),e 17 (.int .i64)],[(0,.box (some 0) [.one 1 (.st 4),.one 1 (.list (.st 19)),.whole 1]),(1,.row 1 (.own (.own .bool)))],2,false⟩ [(.exit 0,⟨[p 0 0],[(0,.box (some 0) [.one 1 (.st 4),.one 1 (.list (.st 19)),.whole 1]),(1,.row 1 (.own (.own .bool)))],2,false⟩),(.ret,⟨[p 0 0,(12,.b (.whole 2)),e 13 .bool],[(0,.box (some 0) [.one 1 (.st 4),.one 1 (.list (.st 19)),.whole 1]),(1,.row 1 (.own (.own .bool))),(2,.row 1 (.st 17))],3,false⟩)],.c 146 [(.normal,⟨[p 0 0,e 1 (.list (.int .i64)),e 2 (.int .i64),e 3 (.int .i64),e 4 (.int .i64),e 5 (.int .i64),e 14 (.int .i64),e 17 (.int .i64),e 133 .bool],[(0,.box (some 0) [.one 1 (.st 4),.one 1 (.list (.st 19)),.whole 1]),(1,.row 1 (.own (.own .bool)))],2,false⟩)],.h ⟨[(0,some 0),(1,none)],⟨[(0,.b (.whole 4))],[(0,.box (some 0) [.one 1 (.st 4),.one 1 (.list (.st 19)),.whole 3]),(3,.row 1 (.own (.own .bool))),(4,.row 1 .bool)],5,false⟩⟩,.c 186 [(.normal,⟨[p 0 0,e 1 (.list (.int .i64)),e 2 (.int .i64),e 3 (.int .i64),e 4 (.int .i64),e 5 (.int .i64),e 14 (.int .i64),e 17 (.int .i64),e 18 (.int .i64)],[(0,.box (some 0) [.one 1 (.st 4),.one 1 (.list (.st 19)),.whole 1]),(1,.row 1 (.own (.own .bool)))],2,false⟩)],.h ⟨[(0,some 0),(1,none)],⟨[(0,.b (.whole 4)),e 1 .bool],[(0,.box (some 0) [.one 1 (.st 4),.one 1 (.list (.st 19)),.whole 3]),(3,.row 1 (.own (.own .bool))),(4,.row 1 (.st 17))],5,false⟩⟩,.h ⟨[(0,some 0),(3,none)],⟨[(0,.b (.whole 7))],[(0,.box (some 0) [.one 1 (.st 4),.one 1 (.list (.st 19)),.whole 6]),(6,.row 1 (.own (.own .bool))),(7,.row 1 (.st 17))],8,false⟩⟩,.e 225 (.st 17)] [enH (zig k),enH h1,enH (ze5 k e1 h1)] (by kernel_rfl) (by kernel_rfl) fun _=>by kernel_rfl
def zey (k:Nat):Nat→ {e:JR // HOk (S:=SyS) prog 140 zag zaf e}
 | 0=>⟨fun _=>none,fun _ _ h=>nomatch h⟩
 | d+1=>⟨zcz k (zey k d).1,zjy k _ (zey k d).2⟩
def zlm (k:Nat):JR:=(zey k k).1
theorem zlZ (k:Nat):HOk (S:=SyS) prog 140 zag zaf (zlm k):=(zey k k).2
def zln (k:Nat):=zcA k (zlm k)
theorem zl0 (k:Nat):HOk (S:=SyS) prog 138 zh8 zh7 (zln k):=ze5 k _ (zlZ k)
def zkc (k:Nat):LB (Int×Int×zS) (Unit ⊕ (Int×(List zb)×Unit)):=fun (v1,v2,v3,v4,v5,_)=>
 (bif decide (v2>(0:Int)) then
  (at? v5 (0:Int)).bind fun v6=>
  (List.get?Internal v5 (Int.toNat (0:Int))).bind fun v7=>
  (List.get?Internal v5 (Int.toNat (0:Int))).bind fun v8=>
  (at? v8 (0:Int)).bind fun v9=>
  (List.get?Internal v5 (Int.toNat (0:Int))).bind fun v10=>
  (List.get?Internal v10 (Int.toNat (0:Int))).bind fun v11=>
  (List.get?Internal v5 (Int.toNat (0:Int))).bind fun v12=>
  (List.get?Internal v12 (Int.toNat (0:Int))).bind fun v13=>
  (at? v13 v2).bind fun v14=>
  (List.get?Internal v5 (Int.toNat (0:Int))).bind fun v15=>
  (List.get?Internal v15 (Int.toNat (0:Int))).bind fun v16=>
  (List.get?Internal v16 (Int.toNat v2)).bind fun v17=>
  (bif v17 then
   (zln k ((0:Int),(0:Int),v2,(0:Int),v1,v3,v4,v5,())).bind fun (v18,v19,v20,v21,_)=>
   some (.inr (.inr (v2,v21,())))
  else
   some (.inl (v1,(w64 (v2-(1:Int))),v3,v4,v5,())))
 else
  some (.inr (.inl ())))
def zja (k:Nat):GrT×(List qy)×Int×Unit→(Option ((List zb)×Int×Unit)):=fun (a0,a1,a2,_)=>
 (zi8 k (a0,a1,())).bind fun v0=>
 (iter k (zkc k) (a2,(a1.length:Int),v0.1,v0.2.1,v0.2.2.1,())).bind fun
 | .inl _=>some (([]:List zb),(0:Int),())
 | .inr (v22,v23,_)=>some (v23,v22,())
theorem zl3 (k:Nat):FOk (S:=SyS) prog 135 [.val (.st 4),.val (.list (.st 19)),.val (.int .i64)] [.own (.st 17),.val (.int .i64)] (zja k):=FOk.mk (k:=k) [.h ⟨[(2,some 0)],⟨[],[(2,.box (some 0) [.one 1 (.st 4),.one 1 (.list (.st 19)),.whole 4]),(4,.row 1 (.own (.own .bool)))],5,false⟩⟩,.l ⟨[e 2 (.int .i64),p 8 1,e 9 (.int .i64)],[(1,.box none [.one 1 (.st 4),.one 1 (.list (.st 19)),.whole 2]),(2,.row 1 (.own (.own .bool)))],3,false⟩ [(.exit 0,⟨[],[],1,false⟩),(.ret,⟨[(6,.b (.whole 1)),e 7 (.int .i64)],[(1,.row 1 (.st 17))],2,false⟩)],.h ⟨[(1,some 0),(2,none)],⟨[(0,.b (.whole 5))],[(1,.box (some 0) [.one 1 (.st 4),.one 1 (.list (.st 19)),.whole 4]),(4,.row 1 (.own (.own .bool))),(5,.row 1 (.st 17))],6,false⟩⟩] [enH (zl1 k),enH (zl0 k)] (by kernel_rfl) fun _=>by kernel_rfl
def zjd (k:Nat):GrT×ql×(List Int)×Unit→(Option ((List zb)×Int×Unit)):=fun (a0,a1,a2,_)=>
 (hi? (List.length a2) (if (false=true) then (if a0.2.2.2.2.2.2.1>(a2.length:Int) then a0.2.2.2.2.2.2.1 else (a2.length:Int)) else (if a0.2.2.2.2.2.2.1<(a2.length:Int) then a0.2.2.2.2.2.2.1 else (a2.length:Int)))).bind fun v0=>
 (zjc k (a1,(slC (Option.none) (Option.some (if (false=true) then (if a0.2.2.2.2.2.2.1>(a2.length:Int) then a0.2.2.2.2.2.2.1 else (a2.length:Int)) else (if a0.2.2.2.2.2.2.1<(a2.length:Int) then a0.2.2.2.2.2.2.1 else (a2.length:Int)))) 0 v0 a2),())).bind fun (v1,_)=>
 ((bif ((v1.length:Int)==(0:Int)) then
   some (true,a0,v1,())
  else
   (at? v1 (0:Int)).bind fun v2=>
   (List.get?Internal v1 (Int.toNat (0:Int))).bind fun v3=>
   (at? a0.1 v3.1).bind fun v4=>
   some (v4.2.2.1,a0,v1,()))).bind fun (v5,v6,v7,_)=>
 (bif v5 then
  some (([]:List zb),(0:Int),())
 else
  (zjb k (v6,v7,())).bind fun (v8,_)=>
  (zja k (v6,v8,(0:Int),())).bind fun (v9,v10,_)=>
  (bif (v10==(0:Int)) then
   some (([]:List zb),(0:Int),())
  else
   (at? v8 (w64 (v10-(1:Int)))).bind fun v11=>
   (List.get?Internal v8 (Int.toNat (w64 (v10-(1:Int))))).bind fun v12=>
   some (v9,v12.2.2.1,())))
theorem zl6 (k:Nat):FOk (S:=SyS) prog 132 [.val (.st 4),.val (.st 6),.val (.list (.int .u8))] [.own (.st 17),.val (.int .i64)] (zjd k):=FOk.mk (k:=k) [.c 27 [(.normal,⟨[p 3 1,(8,.b (.whole 2)),e 35 .bool],[(1,.box none [.one 1 (.st 4)]),(2,.row 1 (.st 19))],3,false⟩)]] [enP (zl5 k),enP (zl4 k),enP (zl3 k)] (by kernel_rfl) fun _=>by kernel_rfl
def zkd (k:Nat):LB ((List zb)×zx) ((List zb)×Unit):=fun (v0,v1,v2,v3,_)=>
 (bif decide (v2<(v0.length:Int)) then
  (at? v0 v2).bind fun v4=>
  room ((List.length v3)+(List.length ([(v4.1,v4.2.1,v4.2.2.1,(w64 (v4.2.2.2.1+v1)),(w64 (v4.2.2.2.2.1+v1)),())]:List zb))) 40 (some (.inl (v0,v1,(w64 (v2+(1:Int))),(v3++([(v4.1,v4.2.1,v4.2.2.1,(w64 (v4.2.2.2.1+v1)),(w64 (v4.2.2.2.2.1+v1)),())]:List zb)),())))
 else
  some (.inr (v3,())))
def zeE (k:Nat):(List zb)×Int×Unit→(Option ((List zb)×Unit)):=fun (a0,a1,_)=>
 (iter k (zkd k) (a0,a1,(0:Int),([]:List zb),())).bind fun (v5,_)=>
 some (v5,())
theorem zih (k:Nat):FOk (S:=SyS) prog 131 [.val (.list (.st 17)),.val (.int .i64)] [.cl (.st 17)] (zeE k):=FOk.mk (k:=k) [.l ⟨[e 0 (.list (.st 17)),e 1 (.int .i64),(5,.b (.whole 1)),e 6 (.int .i64)],[(1,.row 1 (.st 17))],2,false⟩ [(.exit 0,⟨[(5,.b (.whole 1))],[(1,.row 1 (.st 17))],2,false⟩)],.e 53 (.st 17),.e 54 (.st 17),.z 66 4] [] (by kernel_rfl) fun _=>by kernel_rfl
def zke (k:Nat):LB ((List Int)×Int×Int×GrT×(List zx)×ql×Unit) ((List zx)×Unit):=fun (v2,v3,v4,v5,v6,v7,_)=>
 (bif decide (v4<(v2.length:Int)) then
  ((hi? (List.length v2) v4).bind fun v8=>
   (zjd k (v5,v7,(slC (Option.some v4) (Option.none) v8 (List.length v2) v2),())).bind fun (v9,v10,_)=>
   (bif (v10==(0:Int)) then
    room ((List.length v6)+(List.length ([((w64 (v3+v4)),(w64 ((w64 (v3+v4))+(1:Int))),([]:List zb),())]:List zx))) 40 (some (v2,v3,(w64 (v4+(1:Int))),v5,(v6++([((w64 (v3+v4)),(w64 ((w64 (v3+v4))+(1:Int))),([]:List zb),())]:List zx)),v7,()))
   else
    (zeE k (v9,(w64 (v3+v4)),())).bind fun (v11,_)=>
    room ((List.length v6)+(List.length ([((w64 (v3+v4)),(w64 ((w64 (v3+v4))+v10)),v11,())]:List zx))) 40 (some (v2,v3,(w64 (v4+v10)),v5,(v6++([((w64 (v3+v4)),(w64 ((w64 (v3+v4))+v10)),v11,())]:List zx)),v7,())))).bind fun (v12,v13,v14,v15,v16,v17,_)=>
  some (.inl (v12,v13,v14,v15,v16,v17,()))
 else
  some (.inr (v6,())))
def zje (k:Nat):GrT×(List Int)×Int×Unit→(Option ((List zx)×Unit)):=fun (a0,a1,a2,_)=>
 (G25 k (a0.1,())).bind fun (v0,v1,_)=>
 (iter k (zke k) (a1,a2,(0:Int),a0,([]:List zx),v0,())).bind fun (v18,_)=>
 some (v18,())
theorem zl7 (k:Nat):FOk (S:=SyS) prog 128 [.val (.st 4),.val (.list (.int .u8)),.val (.int .i64)] [.own (.st 18)] (zje k):=FOk.mk (k:=k) [.l ⟨[e 1 (.list (.int .u8)),e 2 (.int .i64),p 3 1,(7,.b (.whole 2)),p 8 3,e 10 (.int .i64)],[(1,.box none [.one 1 (.st 4)]),(2,.row 2 (.st 18)),(3,.box none [.one 1 (.st 6)])],4,true⟩ [(.exit 0,⟨[(7,.b (.whole 1))],[(1,.row 2 (.st 18))],2,true⟩)],.c 37 [(.normal,⟨[e 1 (.list (.int .u8)),e 2 (.int .i64),p 3 1,(7,.b (.whole 2)),p 8 3,e 10 (.int .i64)],[(1,.box none [.one 1 (.st 4)]),(2,.row 2 (.st 18)),(3,.box none [.one 1 (.st 6)])],4,true⟩)],.e 70 (.st 18),.e 71 (.st 18),.z 95 56,.e 97 (.st 18),.e 98 (.st 18)] [enP (zkX k),enP (zl6 k),enP (zih k)] (by kernel_rfl) fun _=>by kernel_rfl
def zj7 (k:Nat):LB (Int×Int×GrT×(List zx)×(List zx)×Unit) (Int×GrT×(List zx)×Unit):=fun (v3,v4,v5,v6,v7,_)=>
 (bif decide (v3<(v7.length:Int)) then
  (at? v7 v3).bind fun v8=>
  (List.get?Internal v7 (Int.toNat v3)).bind fun v9=>
  ((bif decide ((v9.2.2.1.length:Int)>(0:Int)) then
    (at? v7 v3).bind fun v10=>
    (List.get?Internal v7 (Int.toNat v3)).bind fun v11=>
    room ((List.length v6)+(List.length ([v11]:List zx))) 40 (some (v3,v4,v5,(v6++([v11]:List zx)),v7,()))
   else
    some (v3,v4,v5,v6,v7,()))).bind fun (v12,v13,v14,v15,v16,_)=>
  some (.inl ((w64 (v12+(1:Int))),v13,v14,v15,v16,()))
 else
  some (.inr (v4,v5,v6,())))
def zi5 (k:Nat):Int×(List Int)×Unit→(Option (GrT×(List zx)×Unit)):=fun (a0,a1,_)=>
 (G12 k (a0,())).bind fun (v0,_)=>
 (zjf k (a0,a1,())).bind fun (v1,_)=>
 (zje k (v0,v1,(0:Int),())).bind fun (v2,_)=>
 (iter k (zj7 k) ((0:Int),(0:Int),v0,([]:List zx),v2,())).bind fun (v17,v18,v19,_)=>
 some (v18,v19,())
theorem zlW (k:Nat):FOk (S:=SyS) prog 152 [.val (.int .u8),.val (.list (.int .u8))] [.val (.st 4),.own (.st 18)] (zi5 k):=FOk.mk (k:=k) [.l ⟨[p 4 1,p 6 2,(7,.b (.whole 3)),(8,.b (.whole 4)),e 9 (.int .i64)],[(1,.box none [.nil,.nil,.nil,.nil,.nil,.nil,.one 1 (.int .i64)]),(2,.box none [.one 1 (.st 4)]),(3,.row 1 (.st 18)),(4,.row 1 (.st 18))],5,true⟩ [(.exit 0,⟨[p 4 1,p 6 2,(7,.b (.whole 3))],[(1,.box none [.nil,.nil,.nil,.nil,.nil,.nil,.one 1 (.int .i64)]),(2,.box none [.one 1 (.st 4)]),(3,.row 1 (.st 18))],4,true⟩)],.c 53 [(.normal,⟨[p 4 1,p 6 2,(7,.b (.whole 3)),(8,.b (.whole 4)),e 9 (.int .i64)],[(1,.box none [.nil,.nil,.nil,.nil,.nil,.nil,.one 1 (.int .i64)]),(2,.box none [.one 1 (.st 4)]),(3,.row 1 (.st 18)),(4,.row 1 (.st 18))],5,true⟩)],.e 60 (.st 18),.e 61 (.st 18)] [enP (zpe k),enP (zl8 k),enP (zl7 k)] (by kernel_rfl) fun _=>by kernel_rfl
def zqf (k:Nat):LB (Int×(List zb)×Int×Int×(List zx)×Unit) ((Int×Int×(List zx)×Unit) ⊕ (Bool×Unit)):=fun (v9,v10,v11,v12,v13,_)=>
 (bif decide (v12<(v10.length:Int)) then
  ((at? v10 v12).bind fun v14=>
   (bif decide (v14.2.2.1<(0:Int)) then
    some (.inl (v9,v10,v11,v12,v13,()))
   else
    (((at? v10 v12).bind fun v15=>
      (bif decide (v15.2.2.2.1<v11) then
       some (v9,v10,v12,true,v13,())
      else
       (at? v10 v12).bind fun v16=>
       (at? v10 v12).bind fun v17=>
       (bif decide (v16.2.2.2.2.1≤v17.2.2.2.1) then
        some (v9,v10,v12,true,v13,())
       else
        (zgR k (v10,v12,())).bind fun (v18,_)=>
        some (v9,v10,v12,decide ((v18.length:Int)>(0:Int)),v13,())))).bind fun (v19,v20,v21,v22,v23,_)=>
     (bif v22 then
      some (.inl (false,()))
     else
      (at? v20 v21).bind fun v24=>
      (at? v20 v21).bind fun v25=>
      (zgP k (v20,v25.2.2.2.1,())).bind fun (v26,_)=>
      ((bif ((v26.length:Int)==(0:Int)) then
        some (v19,v20,v24.2.2.2.2.1,v21,true,v23,())
       else
        (at? v26 (w64 ((v26.length:Int)-(1:Int)))).bind fun v27=>
        (List.get?Internal v26 (Int.toNat (w64 ((v26.length:Int)-(1:Int))))).bind fun v28=>
        some (v19,v20,v24.2.2.2.2.1,v21,(v28 != v21),v23,()))).bind fun (v29,v30,v31,v32,v33,v34,_)=>
      (bif v33 then
       some (.inl (false,()))
      else
       some (.inr (v29,v30,v31,v32,v34,())))):Option ((Bool×Unit) ⊕ (Int×(List zb)×Int×Int×(List zx)×Unit))).bind fun
    | .inl (v35,_)=>some (.inr (v35,()))
    | .inr (v36,v37,v38,v39,v40,_)=>some (.inl (v36,v37,v38,v39,v40,()))):Option ((Int×(List zb)×Int×Int×(List zx)×Unit) ⊕ (Bool×Unit))).bind fun
  | .inl (v41,v42,v43,v44,v45,_)=>some (.inl (v41,v42,v43,(w64 (v44+(1:Int))),v45,()))
  | .inr (v46,_)=>some (.inr (.inr (v46,())))
 else
  some (.inr (.inl (v9,v11,v13,()))))
def zqk (k:Nat):LB (Int×(List zx)×Unit) (Unit ⊕ (Bool×Unit)):=fun (v3,v4,_)=>
 (bif decide (v3<(v4.length:Int)) then
  (at? v4 v3).bind fun v5=>
  (List.get?Internal v4 (Int.toNat v3)).bind fun v6=>
  (at? v4 v3).bind fun v7=>
  (List.get?Internal v4 (Int.toNat v3)).bind fun v8=>
  ((iter k (zqf k) (v3,v6.2.2.1,v8.1,(0:Int),v4,())).bind fun
   | .inl (v47,v48,v49,_)=>(at? v49 v47).bind fun v50=>
    (List.get?Internal v49 (Int.toNat v47)).bind fun v51=>
    (bif (v48 != v51.2.1) then
     some (.inl (false,()))
    else
     some (.inr (v47,v49,())))
   | .inr (v52,_)=>some (.inl (v52,())):Option ((Bool×Unit) ⊕ (Int×(List zx)×Unit))).bind fun
  | .inl (v53,_)=>some (.inr (.inr (v53,())))
  | .inr (v54,v55,_)=>some (.inl ((w64 (v54+(1:Int))),v55,()))
 else
  some (.inr (.inl ())))
def zqi (k:Nat):Int×(List Int)×Unit→(Option (Bool×Unit)):=fun (a0,a1,_)=>
 ((zi6 k ()).bind fun (v0,_)=>
  (bif (!v0) then
   some (false,())
  else
   ((bif decide ((a1.length:Int)>(8:Int)) then
     some (true,())
    else
     (zi5 k (a0,a1,())).bind fun (v1,v2,_)=>
     ((iter k (zqk k) ((0:Int),v2,())).bind fun
      | .inl _=>some (true,())
      | .inr (v56,_)=>some (v56,())).bind fun (v57,_)=>
     some (v57,()))).bind fun (v58,_)=>
   some (v58,()))).bind fun (v59,_)=>
 some (v59,())
theorem zql (k:Nat):FOk (S:=SyS) prog 143 [.val (.int .u8),.val (.list (.int .u8))] [.val .bool] (zqi k):=FOk.mk (k:=k) [.c 4 [(.ret,⟨[e 4 .bool],[],1,false⟩)],.c 15 [(.ret,⟨[e 4 .bool],[],1,false⟩)],.c 39 [(.ret,⟨[e 4 .bool],[],1,false⟩)],.l ⟨[(6,.b (.whole 1)),e 7 (.int .i64)],[(1,.row 1 (.st 18))],2,false⟩ [(.exit 0,⟨[],[],1,false⟩),(.ret,⟨[e 4 .bool],[],1,false⟩)],.c 75 [(.ret,⟨[e 4 .bool],[],1,false⟩),(.normal,⟨[(6,.b (.whole 1)),e 7 (.int .i64)],[(1,.row 1 (.st 18))],2,false⟩)],.l ⟨[(6,.b (.whole 1)),e 7 (.int .i64),e 8 (.list (.st 17)),e 9 (.int .i64),e 10 (.int .i64)],[(1,.row 1 (.st 18))],2,false⟩ [(.exit 2,⟨[(6,.b (.whole 1)),e 7 (.int .i64),e 9 (.int .i64)],[(1,.row 1 (.st 18))],2,false⟩),(.ret,⟨[e 4 .bool],[],1,false⟩)],.c 92 [(.normal,⟨[(6,.b (.whole 1)),e 7 (.int .i64),e 8 (.list (.st 17)),e 9 (.int .i64),e 10 (.int .i64)],[(1,.row 1 (.st 18))],2,false⟩),(.ret,⟨[e 4 .bool],[],1,false⟩)],.c 104 [(.ret,⟨[e 4 .bool],[],1,false⟩),(.normal,⟨[(6,.b (.whole 1)),e 7 (.int .i64),e 8 (.list (.st 17)),e 9 (.int .i64),e 10 (.int .i64)],[(1,.row 1 (.st 18))],2,false⟩)],.c 106 [(.normal,⟨[(6,.b (.whole 1)),e 7 (.int .i64),e 8 (.list (.st 17)),e 10 (.int .i64),e 77 .bool],[(1,.row 1 (.st 18))],2,false⟩)],.c 161 [(.normal,⟨[(6,.b (.whole 1)),e 7 (.int .i64),e 8 (.list (.st 17)),e 9 (.int .i64),e 10 (.int .i64),e 102 .bool],[(1,.row 1 (.st 18))],2,false⟩)]] [enP (zlX k),enP (zlW k),enP (zid k),enP (zib k)] (by kernel_rfl) fun _=>by kernel_rfl
end
def inR (lo hi:Int)(x:Int):Bool:=decide (lo≤x)&&decide (x<hi)
def ziS (nt:Nat)(d:ql):Bool:=
 decide (0<d.2.1.length)&&(d.2.2.1.length==d.2.1.length&&(d.2.1.all (fun r=>r.all (inR (-1) d.2.1.length)&&d.1.1.all (inR 0 r.length))&&d.2.2.1.all (inR (-1) nt)))
def zbp (g:GrT):Bool:=
 decide (0<g.2.1.length)&&(decide (0≤g.2.2.2.2.2.2.1)&&g.2.2.2.1.all (fun r=>inR 0 g.2.1.length r.1&&r.2.1.all (inR (-(g.1.length:Int)) g.2.1.length)))
abbrev K0:Nat:=200000
def Y5 (g:GrT):Bool:=match G25 K0 (g.1,()) with
 | some (d,e,_)=>e==0&&(ziS g.1.length d&&decide (d.2.1.length<100000))
 | none=>false
def zaa (g:GrT):Bool:=match G26 K0 (g,()) with
 | some (_,e,_)=>e==0
 | none=>false
end Go.Pi
