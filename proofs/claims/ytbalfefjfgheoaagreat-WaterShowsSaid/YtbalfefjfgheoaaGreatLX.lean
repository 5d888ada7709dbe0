import Derived.Test.YtbalfefjfgheoaaGreatLD
set_option linter.all false
namespace Go.Pi
set_option linter.unusedVariables false
structure AOD where
 dst:Option Nat
 op:POp
 gu:Option (Nat×Bool)
 aft:List Nat
 res:Nat
 cd:Code
def AOD.er (o:AOD):PO:=⟨o.dst,o.op,o.gu,o.aft,o.res⟩
section
variable {S:Nat→Type} [Sg:Sig S] {ρ ρ':Rho} {H H':Heap} {fr:Fr} {b N:Nat} {t:TS S} {s g:St} {α:Type} {pr:Prog}
def op1X (dst:Option Nat) (res:Nat) (cd:Code) (op:POp) (t:TS S) (K:TS S→Option α):Option α:=match pureK t op with
 | some v=>K (t.putD dst v)
 | none=>match op with
  | .pick c x y=>opPick dst c x y t K
  | .bin o x y=>opBin dst o x y t K
  | .alloc z=>opAlloc dst res z t K
  | .buildSlice sz n z ps=>(match isOwn cd with
   | true=>none
   | false=>opBuildS dst res cd sz n z ps t K)
  | .load ag n x=>(match evK t x with
   | some (.pa _ _ _ _)=>opLoadA dst ag n x t K
   | _=>opLoad dst ag n x t K)
  | .store n a x=>(match dst with
   | none=>(match evK t a,isOwn cd with
    | some (.pa _ _ _ _),_=>opStoreA n a x t K
    | _,true=>none
    | _,false=>opStore n a x t K)
   | some _=>none)
  | .indexAddr sz x i=>opIndex dst sz x i t K
  | .indexAddrA sz len x i=>opIdxA dst sz len x i t K
  | .index ag sz len x i=>opIdxV dst ag sz len x i t K
  | .indexS x i=>opIndexS dst x i t K
  | .len x=>opLen dst x t K
  | .sliceS x lo hi=>opSliceS dst x lo hi t K
  | .slice sz x lo hi=>opSlice dst sz x lo hi t K
  | .makeSlice sz by' z l c=>opMake dst res cd sz by' z l c t K
  | .bits x=>opBits dst x t K
  | _=>none
theorem pureK_new {op:POp} {v:Val S} (h:pureK t op=some v):newOp op=false:=by
 cases op<;>first | rfl | (simp [pureK] at h)
theorem op1X_ok (h:RelR fr b N ρ t g) {dst:Option Nat} (hd:dstK N dst=true) {res:Nat} {cd:Code} {op:POp} {K:TS S→Option α} {r:α} (hr:op1X dst res cd op t K=some r):GotX ρ t.nx fr b N g op res dst (fun t'=>K t'=some r):=by
 unfold op1X at hr
 split at hr
 ·rename_i v hv
  intro call
  obtain ⟨d,k1,k2⟩:=pureK_ok h hv call (b+res)
  exact ⟨⟨d,[],[]⟩,ρ,_,k1,h.putD hd k2,⟨fun _ _ _ h=>h,fun _ _ _ h=>h,fun e=>by rw [pureK_new hv] at e;cases e⟩,hr⟩
 ·split at hr
  ·exact opPick_ok h hd hr
  ·exact opBin_ok h hd hr
  ·exact opAlloc_ok h hd hr
  ·split at hr
   ·cases hr
   ·exact opBuildS_ok h hd hr
  ·split at hr
   ·exact opLoadA_ok h hd hr
   ·exact opLoad_ok h hd hr
  ·split at hr
   ·split at hr
    ·exact opStoreA_ok h hr
    ·cases hr
    ·exact opStore_ok h hr
   ·cases hr
  ·exact opIndex_ok h hd hr
  ·exact opIdxA_ok h hd hr
  ·exact opIdxV_ok h hd hr
  ·exact opIndexS_ok h hd hr
  ·exact opLen_ok h hd hr
  ·exact opSliceS_ok h hd hr
  ·exact opSlice_ok h hd hr
  ·exact opMake_ok h hd hr
  ·exact opBits_ok h hd hr
  ·cases hr
inductive Tg where
 | q
 | s (wo ro:List Nat)
 | n (o:Nat)
def objsX (t:TS S):List PX→Option (List Nat)
 | []=>some []
 | x::xs=>match evK t x with
  | some v=>(match objV v,objsX t xs with
   | some os,some os'=>some (os++os')
   | _,_=>none)
  | none=>none
theorem objsX_ok (h:RelR fr b N ρ t g): ∀ {xs:List PX} {os:List Nat},objsX t xs=some os→ ∀x∈xs, ∀id,refOf (x.ev g.ts)=some id→dead g.hp id∨Tch ρ os id
 | [],_,_,x,hx,_,_=>nomatch hx
 | y::xs,os,ho,x,hx,id,hr=>by
  simp only [objsX] at ho
  split at ho
  ·rename_i v hv
   split at ho
   ·rename_i os1 os2 h1 h2
    cases ho
    rcases List.mem_cons.mp hx with rfl | hx
    ·exact (obj_ref h1 (h.ev hv) hr).imp (fun q=>q) (Tch.up (fun o q=>by simp [q]) (fun _ _ _ q=>q))
    ·exact (objsX_ok h h2 x hx id hr).imp (fun q=>q) (Tch.up (fun o q=>by simp [q]) (fun _ _ _ q=>q))
   ·cases ho
  ·cases ho
def tagD (t:TS S) (op:POp):Option Tg:=match Nat.beq (clsO (fun _=>true) op) 0 with
 | true=>some .q
 | false=>(match spO op with
  | some (k,xs)=>(match objsX t xs with
   | some os=>(match k with
    | 0=>some (.s [] os)
    | 1=>some (.n t.nx)
    | _=>some (.s os []))
   | none=>none)
  | none=>none)
def isMake:POp→Bool
 | .makeSlice _ _ _ _ _=>true
 | _=>false
def isCallO:POp→Bool
 | .call _ _=>true
 | .callQ _ _=>true
 | .callV _ _ _=>true
 | .callH _ _=>true
 | _=>false
def tagO (t:TS S) (cd:Code) (op:POp):Option Tg:=match isCallO op || (isOwn cd && !isMake op) with
 | true=>none
 | false=>tagD t op
theorem tagO_ok {cd:Code} {op:POp} {tg:Tg} (h:tagO t cd op=some tg):tagD t op=some tg:=by
 unfold tagO at h
 split at h
 ·cases h
 ·exact h
theorem doWs_otherK: ∀(ws:List (Nat×Blk)) (H:Heap) (j:Nat),(∀x∈ws,x.1≠j)→hat (doWs H ws) j=hat H j
 | [],_,_,_=>rfl
 | (i,k)::ws,H,j,h=>by
  show hat (doWs (H.set i k) ws) j=_
  rw [doWs_otherK ws _ j (fun x hx=>h x (by simp [hx]))]
  have hij:i≠j:=h (i,k) (by simp)
  rcases Nat.lt_or_ge i H.length with q | q
  ·rw [hat_setK q,if_neg (Ne.symm hij)]
  ·rw [List.set_eq_of_length_le q]
theorem doFz_deadK: ∀(l:List Nat) (H:Heap) (j:Nat),hat H j= .dead→hat (doFz H l) j= .dead
 | [],_,_,h=>h
 | i::l,H,j,h=>by
  show hat (doFz (H.modify i freeze) l) j=_
  refine doFz_deadK l _ j ?_
  rw [hat_mod,h]
  split<;>rfl
def Dd (H H':Heap):Prop:= ∀id,hat H id= .dead→hat H' id= .dead
theorem Dd.refl (H:Heap):Dd H H:=fun _ h=>h
theorem Dd.of {o:Out} {G:Heap} (hgh:GhH (o.on H) G) (hws: ∀w∈o.ws,hat H w.1 ≠ .dead):Dd H G:=fun id hid=>by
 have h1:hat (doWs H o.ws) id= .dead:=by
  rw [doWs_otherK _ _ _ (fun w hw e=>hws w hw (by rw [e];exact hid)),hid]
 have h2:hat (o.on H) id= .dead:=by
  exact doFz_deadK _ _ _ h1
 rcases hgh.2 id with q | ⟨sz,es,q,_⟩ | ⟨sz,es,lv,q,_⟩
 ·rw [q,h2]
 ·rw [h2] at q;cases q
 ·rw [h2] at q;cases q
def HLd (H H':Heap):Prop:=HLe H H'∧Dd H H'
def noFpK (f:Fp):Prop:=f=⟨[],[],[],[],false⟩
def Top (ρ:Rho) (os:List Nat) (id:Nat):Prop:= ∃o∈os,ρ o []=some (some id)
theorem Top.toT {os:List Nat} {id:Nat}:Top ρ os id→Tch ρ os id:=fun ⟨o,h1,h2⟩=>⟨o,h1,[],h2⟩
structure FinM (ρ:Rho) (H:Heap) (wo ro:List Nat) (f:Fp):Prop where
 all:f.all=false
 rd: ∀id∈f.rd,dead H id∨Top ρ wo id∨Tch ρ ro id∨hat H id= .dead
 fz: ∀id∈f.fz,dead H id
 lv: ∀id∈f.lv,Top ρ wo id∨Tch ρ ro id∨hat H id= .dead
 wr: ∀id∈f.wr,Top ρ wo id∨hat H id= .dead
def TgR (ρ:Rho) (H:Heap):Tg→Fp→Prop
 | .q,f=>noFpK f
 | .s wo ro,f=>Fin' ρ H wo ro f
 | .n o,f=>Fin' ρ H [o] [] f∧FinM ρ H [o] [] f
theorem stepO_fpK {c:CallF} {dst:Option Nat} {op:POp} {gu:Option (Nat×Bool)} {aft:List Nat} {res:Nat} {out:Out} (hg:guardOk g.ts gu=true) (hw:wantedP g.ts gu=true) (h:(opE c (PX.ev g.ts) (b+res) op).run g.hp=some out) :
  stepO c b ⟨dst,op,gu,aft,res⟩ g=some ⟨putT g.ts dst out.d,out.on g.hp⟩∧stepFp c b ⟨dst,op,gu,aft,res⟩ g=⟨(opE c (PX.ev g.ts) (b+res) op).rd g.hp,(opE c (PX.ev g.ts) (b+res) op).lv g.hp,out.ws.map (·.1),out.fz,false⟩:=by
 unfold stepO stepFp
 simp only [hg,hw,if_true]
 split
 ·simp [opE,Eff.run] at h
 ·simp only [h,Option.map_some,and_self]
theorem new_fresh {call:CallF} {f:PX→D} {r:Nat} {op:POp} {out:Out} {xs:List PX} (hs:spO op=some (1,xs)) (h:(opE call f r op).run H=some out):hat H r= .fresh:=by
 cases op<;>cases hs
 case alloc z=>
  simp only [opE,Eff.run] at h
  split at h
  ·split at h
   ·assumption
   ·cases h
  ·cases h
 case makeSlice sz by' z l c=>
  simp only [opE] at h
  split at h
  ·split at h
   ·simp only [Eff.run] at h
    split at h
    ·split at h
     ·assumption
     ·cases h
    ·cases h
   ·cases h
  ·cases h
 case buildSlice sz n z ps=>
  simp only [opE] at h
  split at h
  ·split at h
   ·simp only [Eff.run] at h
    split at h
    ·split at h
     ·assumption
     ·cases h
    ·cases h
   ·cases h
  ·cases h
theorem tag_dd {call:CallF} {f:PX→D} {r:Nat} {op:POp} {out:Out} {tg:Tg} (ht:tagD t op=some tg) (h:(opE call f r op).run H=some out): ∀w∈out.ws,hat H w.1 ≠ .dead:=by
 unfold tagD at ht
 split at ht
 ·rename_i hk
  obtain ⟨a1,_⟩:=idle_run (opE_idle (nq:=fun _=>true) (Nat.eq_of_beq_eq_true hk)) h
  rw [a1]
  intro w hw
  cases hw
 ·split at ht
  ·rename_i k xs hsp
   obtain ⟨_,_,a3,_,_⟩:=opE_touch hsp h
   intro w hw
   rcases a3 w hw with ⟨e1,e2⟩ | ⟨_,_,_,sz,es,q⟩
   ·subst e2
    rw [e1,new_fresh hsp h]
    simp
   ·rw [q];simp
  ·cases ht
theorem stepX_ok (h:RelR fr b N ρ t g) {dst:Option Nat} (hd:dstK N dst=true) {res:Nat} {cd:Code} {op:POp} {gu:Option (Nat×Bool)} (hg:guardOk g.ts gu=true) (hw:wantedP g.ts gu=true) {aft:List Nat} {tg:Tg} (ht:tagD t op=some tg) {K:TS S→Option α} {r:α} (hr:op1X dst res cd op t K=some r) :
  ∃g1 t' ρ',stepO (runN pr 0) b ⟨dst,op,gu,aft,res⟩ g=some g1∧K t'=some r∧RelR fr b N ρ' t' g1∧(∀o p x,ρ o p=some x→ρ' o p=some x)∧HLd g.hp g1.hp∧TgR ρ' g1.hp tg (stepFp (runN pr 0) b ⟨dst,op,gu,aft,res⟩ g):=by
 obtain ⟨out,ρ',t',k1,k2,⟨m1,m2,m3⟩,k3⟩:=op1X_ok h hd hr (runN pr 0)
 obtain ⟨e1,e2⟩:=stepO_fpK (dst:=dst) (aft:=aft) hg hw k1
 refine ⟨_,t',ρ',e1,k3,k2,m1,⟨m2,Dd.of (GhH.refl _) (tag_dd ht k1)⟩,?_⟩
 rw [e2]
 unfold tagD at ht
 split at ht
 ·rename_i hk
  cases ht
  obtain ⟨a1,a2,a3,a4⟩:=idle_run (opE_idle (nq:=fun _=>true) (Nat.eq_of_beq_eq_true hk)) k1
  show noFpK _
  unfold noFpK
  rw [a1,a2,a3,a4]
  rfl
 ·split at ht
  ·rename_i k xs hsp
   split at ht
   ·rename_i os hos
    obtain ⟨a1,a2,a3,a4,a5⟩:=opE_touch hsp k1
    have hobj:=objsX_ok h hos
    have notdead: ∀ {id},(∃sz es,hat g.hp id= .row sz es true)→dead g.hp id→False:=fun ⟨sz,es,q⟩ ⟨sz',es',q'⟩=>by rw [q] at q';cases q'
    have new:k=1→newOp op=true:=fun e=>by subst e;cases op<;>cases hsp<;>rfl
    have row: ∀ {id},(∃x∈xs,refOf (PX.ev g.ts x)=some id∧ ∃sz es,hat g.hp id= .row sz es true)→Tch ρ' os id:=fun ⟨x,hx,hr,hrow⟩=>
     ((hobj x hx _ hr).resolve_left (notdead hrow)).up (fun _ q=>q) m1
    have rdd: ∀ {id},(∃x∈xs,refOf (PX.ev g.ts x)=some id)→dead (out.on g.hp) id∨Tch ρ' os id:=fun ⟨x,hx,hr⟩=>(hobj x hx _ hr).imp (dead_le m2) (Tch.up (fun _ q=>q) m1)
    have nof: ∀ {id},id∈out.fz→False:=fun q=>by rw [a4] at q;cases q
    split at ht
    ·cases ht
     refine ⟨rfl,fun id hid=>(rdd (a1 id hid)).imp (fun q=>q) (Tch.up (fun o q=>by simpa using q) (fun _ _ _ q=>q)),fun id hid=>(nof hid).elim,fun id hid=> ?_,fun id hid=> ?_⟩
     ·rcases a2 id hid with ⟨_,e⟩ | q
      ·cases e
      ·exact (row q).up (fun o q=>by simpa using q) (fun _ _ _ q=>q)
     ·have hid:id∈out.ws.map (·.1):=hid
      rw [a5 rfl] at hid
      cases hid
    ·cases ht
     have hx:xs= []:=by cases op<;>cases hsp<;>rfl
     have mine:Tch ρ' [t.nx] (b+res):=⟨t.nx,by simp,[],m3 (new rfl)⟩
     have none: ∀ {p:PX→Prop},(∃x∈xs,p x)→False:=fun ⟨x,q,_⟩=>by rw [hx] at q;cases q
     have mine0:Top ρ' [t.nx] (b+res):=⟨t.nx,by simp,m3 (new rfl)⟩
     have l2: ∀id,id∈(opE (runN pr 0) (PX.ev g.ts) (b+res) op).lv g.hp→id=b+res:=fun id hid=>by
      rcases a2 id hid with ⟨e,_⟩ | q
      ·exact e
      ·exact (none q).elim
     have l3: ∀id,id∈out.ws.map (·.1)→id=b+res:=fun id hid=>by
      obtain ⟨w,hw,rfl⟩:=List.mem_map.mp hid
      rcases a3 w hw with ⟨e,_⟩ | q
      ·exact e
      ·exact (none q).elim
     exact ⟨⟨rfl,fun id hid=>(none (a1 id hid)).elim,fun id hid=>(nof hid).elim,fun id hid=>by rw [l2 id hid];exact mine,fun id hid=>by rw [l3 id hid];exact mine⟩,
      ⟨rfl,fun id hid=>(none (a1 id hid)).elim,(fun id hid=>by have hid:id∈out.fz:=hid;rw [a4] at hid;cases hid),fun id hid=>by rw [l2 id hid];exact .inl mine0,fun id hid=>by rw [l3 id hid];exact .inl mine0⟩⟩
    ·cases ht
     have nk:k≠1:=by assumption
     refine ⟨rfl,fun id hid=>(rdd (a1 id hid)).imp (fun q=>q) (Tch.up (fun o q=>by simpa using q) (fun _ _ _ q=>q)),fun id hid=>(nof hid).elim,fun id hid=> ?_,fun id hid=> ?_⟩
     ·rcases a2 id hid with ⟨_,e⟩ | q
      ·exact absurd e nk
      ·exact (row q).up (fun o q=>by simpa using q) (fun _ _ _ q=>q)
     ·obtain ⟨w,hw,rfl⟩:=List.mem_map.mp hid
      rcases a3 w hw with ⟨_,e⟩ | q
      ·exact absurd e nk
      ·exact row q
   ·cases ht
  ·cases ht
def lentD (Γ:List (Entry S pr)) (t:TS S) (op:POp):Option Nat:=match op with
 | .call f ((m,x)::_)=>(match Nat.beq m 2,findE Γ f,evK t x with
  | true,some (.lent e),some (.ptr o _ _ _)=>(match e.rs.all valR with
   | true=>some o
   | false=>none)
  | _,_,_=>none)
 | _=>none
theorem lentX_ok (h:RelR fr b N ρ t g) {Γ:List (Entry S pr)} {dst:Option Nat} {res:Nat} {cd:Code} {op:POp} {gu:Option (Nat×Bool)} (hg:guardOk g.ts gu=true) (hw:wantedP g.ts gu=true) {aft:List Nat} {ob:Nat} (hl:lentD Γ t op=some ob) {K:TS S→Option α} {r:α} (hr:stepT Γ N dst res cd op t K=some r) :
  ∃n g1 t' g2 ρ',stepO (runN pr n) b ⟨dst,op,gu,aft,res⟩ g=some g1∧K t'=some r∧GhK g1 g2∧RelR fr b N ρ' t' g2∧(∀o p x,ρ o p=some x→ρ' o p=some x)∧HLd g.hp g2.hp∧Fin' ρ' g2.hp [ob] [] (stepFp (runN pr n) b ⟨dst,op,gu,aft,res⟩ g):=by
 unfold lentD at hl
 split at hl
 ·rename_i f m x as
  split at hl
  ·rename_i e o p i j hm he hx
   split at hl
   ·rename_i hv
    cases hl
    obtain rfl:=Nat.eq_of_beq_eq_true hm
    unfold stepT at hr
    split at hr
    ·cases hr
    ·rename_i hd
     have hr:callT Γ f dst res ((2,x)::as) t K=some r:=hr
     unfold callT at hr
     rw [he] at hr
     have hr:callLK e dst res ((2,x)::as) t K=some r:=hr
     unfold callLK at hr
     simp only [hx] at hr
     split at hr
     ·rename_i o' p' i' j' q hm' hx' hq
      cases hx'
      split at hr
      ·rename_i pn vs hij ho
       simp only [Bool.and_eq_true] at hij
       obtain rfl:=Nat.eq_of_beq_eq_true hij.1
       obtain rfl:=Nat.eq_of_beq_eq_true hij.2
       split at hr
       ·rename_i a ha
        simp only [Option.bind_eq_some_iff] at hr
        obtain ⟨v,hvv,hr⟩:=hr
        split at hr
        ·rename_i w hww
         obtain ⟨n,out,g',ρ',k1,k2,k3,k4,k5,k6,id,k7,k8,k9,k10,k11⟩:=lent_okD h e.ok hx ho ha hq hvv hww hv
         rw [show e.f=f from findE_ok he] at k1 k8 k9
         obtain ⟨e1,e2⟩:=stepO_fpK (op:= .call f ((2,x)::as)) (dst:=dst) (aft:=aft) (res:=res) hg hw k1
         refine ⟨n,_,_,_,ρ',e1,hr,put_gh k2,k3.putD hd k4,k5,⟨k6,Dd.of k2.hp (fun w hw=>by
          have:w.1∈out.ws.map (·.1):=List.mem_map.mpr ⟨w,hw,rfl⟩
          rw [k10] at this
          simp only [List.mem_singleton] at this
          obtain ⟨_,sz,es,q⟩:=h.liv _ _ _ k7
          rw [this,q];simp)⟩,?_⟩
         rw [e2]
         have ht:Tch ρ' [_] id:=⟨_,List.mem_singleton.mpr rfl,[],k5 _ _ _ k7⟩
         refine ⟨rfl,fun y hy=>(k8 y hy).imp (dead_le k6) (fun e=>by subst e;exact ht.up (fun o q=>by simpa using q) (fun _ _ _ q=>q)),fun y hy=> .inl (dead_le k6 (k11 y hy)),fun y hy=> ?_,fun y hy=> ?_⟩
         ·have hy:y∈(callE (runN pr n) (b+res) f (((2,x)::as).map fun p=>(p.1,p.2.ev g.ts))).lv g.hp:=hy
          rw [k9] at hy
          simp only [List.mem_singleton] at hy
          subst hy;exact ht.up (fun o q=>by simpa using q) (fun _ _ _ q=>q)
         ·have hy:y∈out.ws.map (·.1):=hy
          rw [k10] at hy
          simp only [List.mem_singleton] at hy
          subst hy;exact ht
        ·cases hr
       ·cases hr
      ·cases hr
     ·cases hr
   ·cases hl
  ·cases hl
 ·cases hl
def mentO1:Val S→List Nat
 | .whole o _=> [o]
 | .win o _ _ _=> [o]
 | .ptr o _ _ _=> [o]
 | .pa o _ _ _=> [o]
 | _=> []
def mentO:Val S→List Nat
 | .agg vs=>vs.flatMap mentO1
 | v=>mentO1 v
def mentTO (t:TS S):Val S→List Nat
 | .ptr o _ _ _=>o::(match look t.hp o with
  | some (.box _ vs)=>vs.flatMap mentO1
  | _=> [])
 | v=>mentO v
def argR (t:TS S) (args:List (Nat×PX)):List Nat:=args.flatMap fun p=>match evK t p.2 with
 | some v=>mentTO t v
 | none=> []
def ownOne:List RK→Bool
 | [.own _]=>true
 | _=>false
def plainCK (Γ:List (Entry S pr)):POp→Option (Ent S pr×List (Nat×PX))
 | .call f args=>(match findE Γ f with
  | some (.plain e)=>(match keeps (S:=S) e.rs&&(e.rs.all valR || ownOne e.rs) with
   | true=>some (e,args)
   | false=>none)
  | _=>none)
 | _=>none
def clearTo (t:TS S) (R:List Nat):TS S:=t.clear fun o _ => !R.contains o
def callPD (e:Ent S pr) (dst:Option Nat) (res:Nat) (args:List (Nat×PX)) (t:TS S) (K:TS S→Option α):Option α:=match argsA (clearTo t (argR t args)) (keeps (S:=S) e.rs) e.ps args with
 | some p=>(e.F p).bind fun r=>match impT e.rs r res t with
  | some q=>K (q.2.putD dst (retT e.rs q.1))
  | none=>none
 | none=>none
theorem own_new {H':Heap}: ∀ {rs:List RK} {v:Flds S (rcs rs)} {xs:List D} {res:Nat} {t:TS S} {q:List (Val S)×TS S},ownOne rs=true→ResX rs v xs→impT rs v res t=some q→All2 (VSx ρ' H') q.1 (impL (b+res) xs).1→ ∀id∈(impL (b+res) xs).2.map (·.1),Tch ρ' [t.nx] id
 | [.own c],v,[],res,t,q,_,hx,_,_=>hx.elim
 | [.own c],v,x::xs,res,t,q,_,hx,hi,hk=>fun id hid=>by
  have hxs:xs= []:=hx.2
  subst hxs
  rcases hx.1 with ⟨rfl,_⟩ | ⟨es,rfl,_⟩
  ·simp [impL,imp1] at hid
  ·simp [impL,imp1] at hid
   subst hid
   simp only [impT] at hi
   split at hi
   ·cases hi
    have h1:VSx ρ' H' (.whole t.nx []) (.ref (b+res) 0 es.length):=hk.1
    have h1:VR1 (S:=S) ρ' H' (.whole t.nx []) (.ref (b+res) 0 es.length):=h1
    rcases h1 with ⟨id,_,_,e1,_,e2⟩ | ⟨_,e2⟩
    ·have e3:=(D.ref.inj e2).1
     exact ⟨t.nx,by simp,[],by rw [e3];exact e1⟩
    ·cases e2
   ·cases hi
 | [],_,_,_,_,_,h,_,_,_=>nomatch h
 | .val _::_,_,_,_,_,_,h,_,_,_=>nomatch h
 | .cl _::_,_,_,_,_,_,h,_,_,_=>nomatch h
 | .fp _::_,_,_,_,_,_,h,_,_,_=>nomatch h
 | .own _::_::_,_,_,_,_,_,h,_,_,_=>nomatch h
theorem own_top {H':Heap}: ∀ {rs:List RK} {v:Flds S (rcs rs)} {xs:List D} {res:Nat} {t:TS S} {q:List (Val S)×TS S},ownOne rs=true→ResX rs v xs→impT rs v res t=some q→All2 (VSx ρ' H') q.1 (impL (b+res) xs).1→ ∀id∈(impL (b+res) xs).2.map (·.1),Top ρ' [t.nx] id
 | [.own c],v,[],res,t,q,_,hx,_,_=>hx.elim
 | [.own c],v,x::xs,res,t,q,_,hx,hi,hk=>fun id hid=>by
  have hxs:xs= []:=hx.2
  subst hxs
  rcases hx.1 with ⟨rfl,_⟩ | ⟨es,rfl,_⟩
  ·simp [impL,imp1] at hid
  ·simp [impL,imp1] at hid
   subst hid
   simp only [impT] at hi
   split at hi
   ·cases hi
    have h1:VSx ρ' H' (.whole t.nx []) (.ref (b+res) 0 es.length):=hk.1
    have h1:VR1 (S:=S) ρ' H' (.whole t.nx []) (.ref (b+res) 0 es.length):=h1
    rcases h1 with ⟨id,_,_,e1,_,e2⟩ | ⟨_,e2⟩
    ·have e3:=(D.ref.inj e2).1
     exact ⟨t.nx,by simp,by rw [e3];exact e1⟩
    ·cases e2
   ·cases hi
 | [],_,_,_,_,_,h,_,_,_=>nomatch h
 | .val _::_,_,_,_,_,_,h,_,_,_=>nomatch h
 | .cl _::_,_,_,_,_,_,h,_,_,_=>nomatch h
 | .fp _::_,_,_,_,_,_,h,_,_,_=>nomatch h
 | .own _::_::_,_,_,_,_,_,h,_,_,_=>nomatch h
def woC (nx:Nat) (rs:List RK):List Nat:=match ownOne rs with
 | true=> [nx]
 | false=> []
theorem callPD_ok (h:RelR fr b N ρ t g) {Γ:List (Entry S pr)} {op:POp} {e:Ent S pr} {args:List (Nat×PX)} (hp:plainCK Γ op=some (e,args)) {dst:Option Nat} (hd:dstK N dst=true) {res:Nat} {gu:Option (Nat×Bool)} (hg:guardOk g.ts gu=true) (hw:wantedP g.ts gu=true) {aft:List Nat} {K:TS S→Option α} {r:α} (hr:callPD e dst res args t K=some r) :
  ∃n g1 t' g2 ρ',stepO (runN pr n) b ⟨dst,op,gu,aft,res⟩ g=some g1∧K t'=some r∧GhK g1 g2∧RelR fr b N ρ' t' g2∧(∀o p x,ρ o p=some x→ρ' o p=some x)∧HLd g.hp g2.hp∧Fin' ρ' g2.hp (woC t.nx e.rs) (argR t args) (stepFp (runN pr n) b ⟨dst,op,gu,aft,res⟩ g):=by
 unfold plainCK at hp
 split at hp
 ·rename_i f args'
  split at hp
  ·rename_i e' he
   split at hp
   ·rename_i hk
    cases hp
    simp only [Bool.and_eq_true,Bool.or_eq_true] at hk
    obtain ⟨hk1,hk2⟩:=hk
    unfold callPD at hr
    split at hr
    ·rename_i p hpa
     simp only [Option.bind_eq_some_iff] at hr
     obtain ⟨v,hv,hr⟩:=hr
     split at hr
     ·rename_i q hq
      have hc:=h.clear (P:=fun o _ => !(argR t args).contains o) (fun _ _ q=>q)
      obtain ⟨ds,ids,p1,p2,p3⟩:=argsA_ok hc (j:=0) hpa
      obtain ⟨n,d,H',r1,r2,xs,hh,rd,e1,e2,e3,e4⟩:=e.ok p v hv ds p2
      obtain ⟨g',ρ',k1,k2,k3,k4,k5⟩:=imp_ok (k:=res) e4 (GhK.refl g) h hq
      have hsc:=keeps_scal hk1 e4
      have hl:(impL (b+res) xs).1.length=e.rs.length:=by
       have: ∀ {l:List D} {r:Nat},(impL r l).1.length=l.length:=by
        intro l
        induction l with
        | nil=>intro r;rfl
        | cons d l ih=>intro r;simp [impL,ih]
       rw [this,e4.len]
      have h1:(hh.all fun x => !rd.contains x)=true:=e3
      have h2:(hh.all fun x => !([]:List Nat).contains x)=true:=by simp
      have hrun:(callE (runN pr n) (b+res) f (args.map fun p=>(p.1,p.2.ev g.ts))).run g.hp=some ⟨recomp d (impL (b+res) xs).1,(impL (b+res) xs).2,[]⟩:=by
       rw [← show e.f=f from findE_ok he]
       simp only [callE,run_bindE,p1,Option.bind_some,List.map_nil,nodup,apart,List.all_nil,Bool.and_self,if_true,r1,finish,e1,expB,boxKs]
       simp only [e2,List.isEmpty_nil,Bool.true_and,List.nil_append]
       simp only [h1,h2,Bool.and_self,if_true]
       rw [newL_run k5]
       simp only [hsc,if_true]
       rfl
      obtain ⟨q1,q2⟩:=stepO_fpK (op:= .call f args) (dst:=dst) (aft:=aft) (res:=res) hg hw hrun
      refine ⟨n,_,_,_,ρ',q1,hr,put_gh (o:=⟨recomp d (impL (b+res) xs).1,(impL (b+res) xs).2,[]⟩) k1,k2.putD hd (ret_ok r2 hl k4),k3.map,⟨k3.hle,Dd.of (o:=⟨recomp d (impL (b+res) xs).1,(impL (b+res) xs).2,[]⟩) k1.hp (fun w hw=>by
       rw [(k5 w.1 (List.mem_map.mpr ⟨w,hw,rfl⟩)).1];simp)⟩,?_⟩
      rw [q2]
      have hz: ∀a∈args.map (fun p=>(p.1,p.2.ev g.ts)),a.1=0:=fun a ha=>by
       obtain ⟨y,hy,rfl⟩:=List.mem_map.mp ha
       exact argsA_zero hpa y hy
      have hnew: ∀id∈(impL (b+res) xs).2.map (·.1),Tch ρ' (woC t.nx e.rs) id:=by
       rcases hk2 with hv' | ho
       ·rw [val_ws hv' e4]
        intro id hid
        cases hid
       ·have:woC t.nx e.rs= [t.nx]:=by unfold woC;rw [ho]
        rw [this]
        exact own_new ho e4 hq k4
      have hcont:(callE (runN pr n) (b+res) f (args.map fun p=>(p.1,p.2.ev g.ts))).rd g.hp=(prep (args.map fun p=>(p.1,p.2.ev g.ts)) 0).rd g.hp∧(callE (runN pr n) (b+res) f (args.map fun p=>(p.1,p.2.ev g.ts))).lv g.hp=(prep (args.map fun p=>(p.1,p.2.ev g.ts)) 0).lv g.hp++(impL (b+res) xs).2.map (·.1):=by
       rw [← show e.f=f from findE_ok he]
       unfold callE
       rw [(bind_rd p1).1,(bind_rd p1).2]
       simp only [List.map_nil,nodup,apart,List.all_nil,Bool.and_self,if_true,r1,finish,e1,expB,boxKs,Option.bind_some]
       simp only [e2,List.isEmpty_nil,Bool.true_and,List.nil_append]
       simp only [h1,h2,Bool.and_self,if_true]
       rw [newL_rd.1,newL_rd.2,List.append_nil]
       exact ⟨rfl,rfl⟩
      obtain ⟨m1,m2⟩:=prep_rd hz p1
      refine ⟨rfl,fun y hy=> ?_,(fun y hy=>nomatch hy),fun y hy=> ?_,fun y hy=>hnew y hy⟩
      ·have hy:y∈(callE (runN pr n) (b+res) f (args.map fun p=>(p.1,p.2.ev g.ts))).rd g.hp:=hy
       rw [hcont.1] at hy
       rcases p3 y (m1 y hy) with q | ⟨_,o,pp,q⟩
       ·exact .inl (dead_le k3.hle q)
       ·obtain ⟨z1,z2⟩:=cutR_some q
        exact .inr ⟨o,by simp at z1;simp [z1],pp,k3.map _ _ _ z2⟩
      ·have hy:y∈(callE (runN pr n) (b+res) f (args.map fun p=>(p.1,p.2.ev g.ts))).lv g.hp:=hy
       rw [hcont.2,m2,List.nil_append] at hy
       exact (hnew y hy).up (fun o q=>List.mem_append_left _ q) (fun _ _ _ q=>q)
     ·cases hr
    ·cases hr
   ·cases hp
  ·cases hp
 ·cases hp
theorem append_blk {call:CallF} {f:PX→D} {q sz by':Nat} {x y:PX} {out:Out} (h:(opE call f q (.append sz by' x y)).run H=some out): ∀w∈out.ws, ∀sz es,w.2 ≠ .row sz es false:=by
 simp only [opE,run_bindE,Option.bind_eq_some_iff] at h
 obtain ⟨src,hs,h⟩:=h
 by_cases hem:src.isEmpty=true
 ·rw [if_pos hem] at h
  cases hx:f x<;>rw [hx] at h<;>cases h<;>simp
 ·rw [if_neg hem] at h
  cases hx:f x with
  | nil=>
   rw [hx] at h
   simp only at h
   split at h
   ·simp only [Eff.run] at h
    split at h
    ·split at h
     ·cases h;simp
     ·cases h
    ·cases h
   ·cases h
  | ref id off len=>
   rw [hx] at h
   simp only [Eff.run] at h
   split at h
   ·split at h
    ·split at h
     ·simp only [Eff.run] at h
      split at h
      ·split at h
       ·cases h;simp
       ·cases h
      ·cases h
     ·cases h
    ·cases h
   ·cases h
  | _=>rw [hx] at h;cases h
theorem source_touch {sz:Nat} {d:D} {src:List (List D)} (h:(source sz d).run H=some src):(∀i∈(source sz d).rd H,refOf d=some i)∧(source sz d).lv H= []:=by
 cases d with
 | nil=>exact ⟨by simp [source,Eff.rd],rfl⟩
 | lst s es=>
  simp only [source] at h ⊢
  split
  ·exact ⟨by simp [Eff.rd],rfl⟩
  ·exact ⟨by simp [Eff.rd],rfl⟩
 | ref id off len=>
  simp only [source,Eff.run] at h
  cases hh:hat H id with
  | row s es lv=>
   rw [hh] at h
   simp only at h
   split at h
   ·rename_i hc
    simp only [source,Eff.rd,Eff.lv,hh,if_pos hc]
    exact ⟨fun i hi=>by simp at hi;subst hi;rfl,trivial⟩
   ·cases h
  | fresh=>rw [hh] at h;cases h
  | dead=>rw [hh] at h;cases h
 | str s=>
  simp only [source] at h ⊢
  split
  ·exact ⟨by simp [Eff.rd],rfl⟩
  ·exact ⟨by simp [Eff.rd],rfl⟩
 | _=>cases h
theorem append_touch {call:CallF} {f:PX→D} {q sz by':Nat} {x y:PX} {out:Out} (h:(opE call f q (.append sz by' x y)).run H=some out) :
  (∀i∈(opE call f q (.append sz by' x y)).rd H,refOf (f y)=some i∨(refOf (f x)=some i∧ ∃sz es,hat H i= .row sz es true)) ∧
  (∀i∈(opE call f q (.append sz by' x y)).lv H,hat H i= .fresh∨(refOf (f x)=some i∧ ∃sz es,hat H i= .row sz es true)) ∧
  (∀w∈out.ws,hat H w.1= .fresh∨(refOf (f x)=some w.1∧ ∃sz es,hat H w.1= .row sz es true))∧out.fz= []∧ ∀w∈out.ws, ∀sz es,hat H w.1 ≠ .row sz es false:=by
 simp only [opE,run_bindE,Option.bind_eq_some_iff] at h
 obtain ⟨src,hs,h⟩:=h
 obtain ⟨s1,s2⟩:=source_touch hs
 have hr:=bind_rd (f:=fun src=>if src.isEmpty=true then (match f x with
   | .nil=>quiet .nil
   | .ref id off len=>quiet (.ref id off len)
   | .lst s es=>quiet (.lst s es)
   | _=>Eff.fail)
  else
   (match f x with
   | .nil=>if src.length≤roomy∧src.length*by'≤roomy then .new q (.pure ⟨.ref q 0 src.length,[(q,.row sz src true)],[]⟩) else .fail
   | .ref id off len=> .live id (.get id fun s es=>
    if s=sz∧off=0∧len≤es.length∧len+src.length≤roomy∧(len+src.length)*by'≤roomy then
     .new q (.pure ⟨.ref q 0 (len+src.length),[(id,.dead),(q,.row sz (es.take len++src) true)],[]⟩)
    else .fail)
   | _=> .fail)) hs
 have e1:(opE call f q (.append sz by' x y)).rd H=_:=hr.1
 have e2:(opE call f q (.append sz by' x y)).lv H=_:=hr.2
 rw [e1,e2,s2,List.nil_append]
 clear e1 e2 hr
 by_cases hem:src.isEmpty=true
 ·rw [if_pos hem] at h ⊢
  cases hx:f x with
  | nil=>rw [hx] at h;cases h;exact ⟨fun i hi=>by simp [quiet,Eff.rd] at hi;exact .inl (s1 i hi),by simp [quiet,Eff.lv],by simp,rfl,by simp⟩
  | ref id off len=>rw [hx] at h;cases h;exact ⟨fun i hi=>by simp [quiet,Eff.rd] at hi;exact .inl (s1 i hi),by simp [quiet,Eff.lv],by simp,rfl,by simp⟩
  | lst s es=>rw [hx] at h;cases h;exact ⟨fun i hi=>by simp [quiet,Eff.rd] at hi;exact .inl (s1 i hi),by simp [quiet,Eff.lv],by simp,rfl,by simp⟩
  | _=>rw [hx] at h;cases h
 ·rw [if_neg hem] at h ⊢
  cases hx:f x with
  | nil=>
   rw [hx] at h
   simp only at h ⊢
   split at h
   ·rename_i hc
    simp only [Eff.run] at h
    split at h
    ·split at h
     ·rename_i hf
      cases h
      simp only [hc,and_self,if_true,Eff.rd,Eff.lv,List.append_nil]
      refine ⟨fun i hi=> .inl (s1 i hi),fun i hi=> ?_,fun w hw=> ?_,trivial,fun w hw sz es=> ?_⟩
      ·simp at hi;subst hi;exact .inl hf
      ·simp at hw;subst hw;exact .inl hf
      ·simp at hw;subst hw;rw [hf];simp
     ·cases h
    ·cases h
   ·cases h
  | ref id off len=>
   rw [hx] at h
   simp only [Eff.run] at h
   cases hh:hat H id with
   | row s es lv=>
    cases lv with
    | true=>
     rw [hh] at h
     simp only at h
     split at h
     ·rename_i hc
      simp only [Eff.run] at h
      split at h
      ·split at h
       ·rename_i hf
        cases h
        have hcc:s=sz∧off=0∧len≤es.length∧len+src.length≤roomy∧(len+src.length)*by'≤roomy:=hc
        simp only [Eff.rd,Eff.lv,hh,if_pos hcc]
        refine ⟨fun i hi=> ?_,fun i hi=> ?_,fun w hw=> ?_,trivial,fun w hw sz es=> ?_⟩
        ·simp at hi
         rcases hi with hi | rfl
         ·exact .inl (s1 i hi)
         ·exact .inr ⟨rfl,_,_,hh⟩
        ·simp at hi
         rcases hi with rfl | rfl
         ·exact .inr ⟨rfl,_,_,hh⟩
         ·exact .inl hf
        ·simp at hw
         rcases hw with rfl | rfl
         ·exact .inr ⟨rfl,_,_,hh⟩
         ·exact .inl hf
        ·simp at hw
         rcases hw with rfl | rfl
         ·rw [hh];simp
         ·rw [hf];simp
       ·cases h
      ·cases h
     ·cases h
    | false=>rw [hh] at h;cases h
   | fresh=>rw [hh] at h;cases h
   | dead=>rw [hh] at h;cases h
  | _=>rw [hx] at h;cases h
theorem append_ids {call:CallF} {f:PX→D} {q sz by':Nat} {x y:PX} {out:Out} (h:(opE call f q (.append sz by' x y)).run H=some out) :
  (∀i∈(opE call f q (.append sz by' x y)).rd H,refOf (f y)=some i ∨ ∃w∈out.ws,w.1=i)∧(∀i∈(opE call f q (.append sz by' x y)).lv H, ∃w∈out.ws,w.1=i):=by
 simp only [opE,run_bindE,Option.bind_eq_some_iff] at h
 obtain ⟨src,hs,h⟩:=h
 obtain ⟨s1,s2⟩:=source_touch hs
 have e1:(opE call f q (.append sz by' x y)).rd H=_:=(bind_rd hs).1
 have e2:(opE call f q (.append sz by' x y)).lv H=_:=(bind_rd hs).2
 rw [e1,e2,s2,List.nil_append]
 clear e1 e2
 by_cases hem:src.isEmpty=true
 ·rw [if_pos hem] at h
  simp only [if_pos hem]
  cases hx:f x<;>rw [hx] at h<;>cases h<;>simp only [quiet,Eff.rd,Eff.lv,List.append_nil]<;>exact ⟨fun i hi=> .inl (s1 i hi),fun i hi=>by cases hi⟩
 ·rw [if_neg hem] at h
  simp only [if_neg hem]
  cases hx:f x with
  | nil=>
   rw [hx] at h
   simp only at h ⊢
   split at h
   ·rename_i hc
    simp only [Eff.run] at h
    split at h
    ·split at h
     ·cases h
      simp only [if_pos hc,Eff.rd,Eff.lv,List.append_nil]
      exact ⟨fun i hi=> .inl (s1 i hi),fun i hi=>⟨_,List.mem_singleton.mpr rfl,by simp at hi;exact hi.symm⟩⟩
     ·cases h
    ·cases h
   ·cases h
  | ref id off len=>
   rw [hx] at h
   simp only [Eff.run] at h
   cases hh:hat H id with
   | row s es lv=>
    cases lv with
    | true=>
     rw [hh] at h
     simp only at h
     split at h
     ·rename_i hc
      simp only [Eff.run] at h
      split at h
      ·split at h
       ·cases h
        simp only [Eff.rd,Eff.lv,hh,if_pos hc]
        refine ⟨fun i hi=> ?_,fun i hi=> ?_⟩
        ·simp at hi
         rcases hi with hi | rfl
         ·exact .inl (s1 i hi)
         ·exact .inr ⟨(_,Blk.dead),List.mem_cons_self ..,rfl⟩
        ·simp at hi
         rcases hi with rfl | rfl
         ·exact ⟨(_,Blk.dead),List.mem_cons_self ..,rfl⟩
         ·exact ⟨_,List.mem_cons_of_mem _ (List.mem_singleton.mpr rfl),rfl⟩
       ·cases h
      ·cases h
     ·cases h
    | false=>rw [hh] at h;cases h
   | fresh=>rw [hh] at h;cases h
   | dead=>rw [hh] at h;cases h
  | _=>rw [hx] at h;cases h
theorem append_dead {call:CallF} {f:PX→D} {q sz by':Nat} {x y:PX} {out:Out} (h:(opE call f q (.append sz by' x y)).run H=some out): ∀w∈out.ws,w.2= .dead→hat (out.on H) w.1= .dead:=by
 have h0:=h
 simp only [opE,run_bindE,Option.bind_eq_some_iff] at h
 obtain ⟨src,hs,h⟩:=h
 by_cases hem:src.isEmpty=true
 ·rw [if_pos hem] at h
  cases hx:f x<;>rw [hx] at h<;>cases h<;>simp
 ·rw [if_neg hem] at h
  cases hx:f x with
  | nil=>
   rw [hx] at h
   simp only at h
   split at h
   ·simp only [Eff.run] at h
    split at h
    ·split at h
     ·cases h;simp
     ·cases h
    ·cases h
   ·cases h
  | ref id off len=>
   rw [hx] at h
   simp only [Eff.run] at h
   cases hh:hat H id with
   | row s es lv=>
    cases lv with
    | true=>
     rw [hh] at h
     simp only at h
     split at h
     ·simp only [Eff.run] at h
      split at h
      ·rename_i hl
       split at h
       ·rename_i hf
        cases h
        intro w hw hd
        simp at hw
        rcases hw with rfl | rfl
        ·have hne:id≠q:=fun e=>by subst e;rw [hh] at hf;cases hf
         have hlt:id<H.length:=hat_ltK (by rw [hh];simp)
         show hat ((H.set id .dead).set q _) id= .dead
         rw [hat_setK (by simpa using hl),if_neg hne,hat_setK hlt,if_pos rfl]
        ·cases hd
       ·cases h
      ·cases h
     ·cases h
    | false=>rw [hh] at h;cases h
   | fresh=>rw [hh] at h;cases h
   | dead=>rw [hh] at h;cases h
  | _=>rw [hx] at h;cases h
structure FinG (ρ:Rho) (H:Heap) (wo ro:List Nat) (f:Fp):Prop where
 all:f.all=false
 rd: ∀id∈f.rd,dead H id∨Tch ρ (wo++ro) id∨hat H id= .dead
 fz: ∀id∈f.fz,dead H id∨Tch ρ wo id
 lv: ∀id∈f.lv,Tch ρ (wo++ro) id∨hat H id= .dead
 wr: ∀id∈f.wr,Tch ρ wo id∨hat H id= .dead
theorem Fin'.toG {wo ro:List Nat} {f:Fp} (h:Fin' ρ H wo ro f):FinG ρ H wo ro f:=⟨h.all,fun id q=>(h.rd id q).imp (fun z=>z) .inl,h.fz,fun id q=> .inl (h.lv id q),fun id q=> .inl (h.wr id q)⟩
theorem FinG.up {wo ro:List Nat} {f:Fp} (h:FinG ρ H wo ro f) (hm: ∀o p x,o∈wo++ro→ρ o p=some x→ρ' o p=some x) (hh:HLd H H'):FinG ρ' H' wo ro f:=by
 have l1: ∀o∈wo,o∈wo++ro:=fun o q=>List.mem_append_left _ q
 have tt: ∀ {os:List Nat} {id},(∀o∈os,o∈wo++ro)→Tch ρ os id→Tch ρ' os id:=fun hos ⟨o,e1,p,e2⟩=>⟨o,e1,p,hm _ _ _ (hos o e1) e2⟩
 exact ⟨h.all,fun id q=>(h.rd id q).imp (dead_le hh.1) (fun z=>z.imp (tt fun _ q=>q) (hh.2 id)),fun id q=>(h.fz id q).imp (dead_le hh.1) (tt l1),fun id q=>(h.lv id q).imp (tt fun _ q=>q) (hh.2 id),fun id q=>(h.wr id q).imp (tt l1) (hh.2 id)⟩
theorem clash_noG (h:RelR fr b N ρ t g) {wo ro wo' ro':List Nat} {f f':Fp} (h1:FinG ρ g.hp wo' ro' f) (h2:Fin' ρ g.hp wo ro f') (hd:(disj wo' (wo++ro)&&disj wo (wo'++ro'))=true):clash f f'=false:=by
 simp only [Bool.and_eq_true] at hd
 have ne: ∀ {xs ys:List Nat},disj xs ys=true→ ∀id,Tch ρ xs id→Tch ρ ys id→False:=fun hd id ⟨o,q1,p,q2⟩ ⟨o',q3,p',q4⟩=>by
  obtain ⟨rfl,_⟩:=h.inj _ _ _ _ _ q2 q4
  have:=List.all_eq_true.mp hd o q1
  simp at this
  exact this q3
 have live: ∀ {os:List Nat} {id},Tch ρ os id→dead g.hp id→False:=fun ⟨o,q1,p,q2⟩ ⟨sz,es,q3⟩=>by
  obtain ⟨_,_,_,q4⟩:=h.liv _ _ _ q2
  rw [q3] at q4
  cases q4
 have gone: ∀ {os:List Nat} {id},Tch ρ os id→hat g.hp id= .dead→False:=fun ⟨o,q1,p,q2⟩ q3=>by
  obtain ⟨_,_,_,q4⟩:=h.liv _ _ _ q2
  rw [q3] at q4
  cases q4
 have goned: ∀ {id},dead g.hp id→hat g.hp id= .dead→False:=fun ⟨sz,es,q1⟩ q3=>by rw [q3] at q1;cases q1
 have left: ∀ {xs ys:List Nat} {id},Tch ρ xs id→Tch ρ (xs++ys) id:=fun q=>q.up (fun o ho=>List.mem_append_left _ ho) (fun _ _ _ q=>q)
 have A: ∀id,(Tch ρ wo' id∨hat g.hp id= .dead)→(dead g.hp id∨Tch ρ (wo++ro) id)→False:=fun id q1 q2=>q1.elim (fun q=>q2.elim (live q) (ne hd.1 id q)) (fun q=>q2.elim (fun z=>goned z q) (fun z=>gone z q))
 have B: ∀id,Tch ρ wo id→(dead g.hp id∨Tch ρ (wo'++ro') id∨hat g.hp id= .dead)→False:=fun id q1 q2=>q2.elim (live q1) (fun z=>z.elim (ne hd.2 id q1) (gone q1))
 have e1:meets f.wr f'.rd=false:=meets_no fun id q1 q2=>A id (h1.wr id q1) (h2.rd id q2)
 have e2:meets f.wr f'.lv=false:=meets_no fun id q1 q2=>A id (h1.wr id q1) (.inr (h2.lv id q2))
 have e3:meets f.wr f'.wr=false:=meets_no fun id q1 q2=>A id (h1.wr id q1) (.inr (left (h2.wr id q2)))
 have e4:meets f.wr f'.fz=false:=meets_no fun id q1 q2=>A id (h1.wr id q1) ((h2.fz id q2).imp (fun q=>q) left)
 have e5:meets f'.wr f.rd=false:=meets_no fun id q1 q2=>B id (h2.wr id q1) (h1.rd id q2)
 have e6:meets f'.wr f.lv=false:=meets_no fun id q1 q2=>B id (h2.wr id q1) (.inr (h1.lv id q2))
 have e7:meets f'.wr f.fz=false:=meets_no fun id q1 q2=>B id (h2.wr id q1) ((h1.fz id q2).imp (fun q=>q) (fun z=> .inl (left z)))
 have e8:meets f.fz f'.lv=false:=meets_no fun id q1 q2=>(h1.fz id q1).elim (live (h2.lv id q2)) (fun q=>A id (.inl q) (.inr (h2.lv id q2)))
 have e9:meets f'.fz f.lv=false:=meets_no fun id q1 q2=>(h2.fz id q1).elim (fun z=>(h1.lv id q2).elim (fun q=>live q z) (goned z)) (fun q=>B id q (.inr (h1.lv id q2)))
 simp [clash,h1.all,h2.all,e1,e2,e3,e4,e5,e6,e7,e8,e9]
theorem FinM.toG {wo ro:List Nat} {f:Fp} (h:FinM ρ H wo ro f):FinG ρ H wo ro f:=by
 have tl: ∀ {id},Top ρ wo id→Tch ρ (wo++ro) id:=fun q=>(Top.toT q).up (fun o ho=>List.mem_append_left _ ho) (fun _ _ _ q=>q)
 have tr: ∀ {id},Tch ρ ro id→Tch ρ (wo++ro) id:=fun q=>q.up (fun o ho=>List.mem_append_right _ ho) (fun _ _ _ q=>q)
 exact ⟨h.all,fun id q=>(h.rd id q).imp (fun z=>z) (fun z=>z.elim (fun y=> .inl (tl y)) (fun y=>y.imp tr (fun y=>y))),fun id q=> .inl (h.fz id q),
  fun id q=>(h.lv id q).elim (fun y=> .inl (tl y)) (fun y=>y.imp tr (fun y=>y)),fun id q=>(h.wr id q).imp (fun y=>Top.toT y) (fun y=>y)⟩
theorem FinM.tp {wo ro mo:List Nat} {f:Fp} (h:FinM ρ H wo ro f) (ht: ∀o id,o∈wo→ρ o []=some (some id)→ρ' o []=some (some id)∨hat H' id= .dead) (hm: ∀o p x,o∈ro→ρ o p=some x→ρ' o p=some x) (hh:HLd H H'):FinM ρ' H' wo ro f:=by
 have tt: ∀ {id},Top ρ wo id→Top ρ' wo id∨hat H' id= .dead:=fun ⟨o,e1,e2⟩=>(ht o _ e1 e2).imp (fun q=>⟨o,e1,q⟩) (fun q=>q)
 have tr: ∀ {id},Tch ρ ro id→Tch ρ' ro id:=fun ⟨o,e1,p,e2⟩=>⟨o,e1,p,hm _ _ _ e1 e2⟩
 exact ⟨h.all,fun id q=>(h.rd id q).imp (dead_le hh.1) (fun z=>z.elim (fun y=>(tt y).imp (fun y=>y) .inr) (fun y=> .inr (y.imp tr (hh.2 id)))),fun id q=>dead_le hh.1 (h.fz id q),
  fun id q=>(h.lv id q).elim (fun y=>(tt y).imp (fun y=>y) .inr) (fun y=> .inr (y.imp tr (hh.2 id))),fun id q=>(h.wr id q).elim tt (fun y=> .inr (hh.2 id y))⟩
def TagR (ρ:Rho) (H:Heap):(List Nat×List Nat)×Bool→Fp→Prop
 | ((wo,ro),true),f=>FinM ρ H wo ro f
 | ((wo,ro),false),f=>FinG ρ H wo ro f
theorem TagR.toG: ∀ {x:(List Nat×List Nat)×Bool} {f:Fp},TagR ρ H x f→FinG ρ H x.1.1 x.1.2 f
 | ((_,_),true),_,h=>FinM.toG h
 | ((_,_),false),_,h=>h
theorem TagR.up: ∀ {x:(List Nat×List Nat)×Bool} {f:Fp},TagR ρ H x f→(∀o p y,o∈x.1.1++x.1.2→ρ o p=some y→ρ' o p=some y)→HLd H H'→TagR ρ' H' x f
 | ((wo,ro),true),_,h,hm,hh=>FinM.tp (mo:= []) h (fun o id e1 e2=> .inl (hm o [] _ (List.mem_append_left _ e1) e2)) (fun o p y e1 e2=>hm o p y (List.mem_append_right _ e1) e2) hh
 | ((wo,ro),false),_,h,hm,hh=>FinG.up h hm hh
structure FinQ (ρ:Rho) (H:Heap) (wo ro:List Nat) (f:Fp):Prop where
 all:f.all=false
 rd: ∀id∈f.rd,dead H id∨Tch ρ (wo++ro) id
 fz: ∀id∈f.fz,dead H id
 lv: ∀id∈f.lv,hat H id= .fresh∨Tch ρ (wo++ro) id
 wr: ∀id∈f.wr,hat H id= .fresh∨Tch ρ wo id
theorem clash_noQ (h:RelR fr b N ρ t g) {wo ro wo' ro':List Nat} {f f':Fp} (h1:FinG ρ g.hp wo' ro' f) (h2:FinQ ρ g.hp wo ro f') (hd:(disj wo' (wo++ro)&&disj wo (wo'++ro'))=true):clash f f'=false:=by
 simp only [Bool.and_eq_true] at hd
 have ne: ∀ {xs ys:List Nat},disj xs ys=true→ ∀id,Tch ρ xs id→Tch ρ ys id→False:=fun hd id ⟨o,q1,p,q2⟩ ⟨o',q3,p',q4⟩=>by
  obtain ⟨rfl,_⟩:=h.inj _ _ _ _ _ q2 q4
  have:=List.all_eq_true.mp hd o q1
  simp at this
  exact this q3
 have live: ∀ {os:List Nat} {id},Tch ρ os id→dead g.hp id→False:=fun ⟨o,q1,p,q2⟩ ⟨sz,es,q3⟩=>by
  obtain ⟨_,_,_,q4⟩:=h.liv _ _ _ q2
  rw [q3] at q4
  cases q4
 have gone: ∀ {os:List Nat} {id},Tch ρ os id→hat g.hp id= .dead→False:=fun ⟨o,q1,p,q2⟩ q3=>by
  obtain ⟨_,_,_,q4⟩:=h.liv _ _ _ q2
  rw [q3] at q4
  cases q4
 have new: ∀ {os:List Nat} {id},Tch ρ os id→hat g.hp id= .fresh→False:=fun ⟨o,q1,p,q2⟩ q3=>by
  obtain ⟨_,_,_,q4⟩:=h.liv _ _ _ q2
  rw [q3] at q4
  cases q4
 have goned: ∀ {id},dead g.hp id→hat g.hp id= .dead→False:=fun ⟨sz,es,q1⟩ q3=>by rw [q3] at q1;cases q1
 have newd: ∀ {id},dead g.hp id→hat g.hp id= .fresh→False:=fun ⟨sz,es,q1⟩ q3=>by rw [q3] at q1;cases q1
 have ng: ∀ {id},hat g.hp id= .dead→hat g.hp id= .fresh→False:=fun q1 q3=>by rw [q3] at q1;cases q1
 have left: ∀ {xs ys:List Nat} {id},Tch ρ xs id→Tch ρ (xs++ys) id:=fun q=>q.up (fun o ho=>List.mem_append_left _ ho) (fun _ _ _ q=>q)
 have A: ∀id,(Tch ρ wo' id∨hat g.hp id= .dead)→(dead g.hp id∨hat g.hp id= .fresh∨Tch ρ (wo++ro) id)→False:=fun id q1 q2=>q1.elim (fun q=>q2.elim (live q) (fun z=>z.elim (new q) (ne hd.1 id q))) (fun q=>q2.elim (fun z=>goned z q) (fun z=>z.elim (ng q) (fun y=>gone y q)))
 have B: ∀id,(hat g.hp id= .fresh∨Tch ρ wo id)→(dead g.hp id∨Tch ρ (wo'++ro') id∨hat g.hp id= .dead)→False:=fun id q1 q2=>q1.elim (fun q=>q2.elim (fun z=>newd z q) (fun z=>z.elim (fun y=>new y q) (fun y=>ng y q))) (fun q=>q2.elim (live q) (fun z=>z.elim (ne hd.2 id q) (gone q)))
 have e1:meets f.wr f'.rd=false:=meets_no fun id q1 q2=>A id (h1.wr id q1) ((h2.rd id q2).imp (fun q=>q) .inr)
 have e2:meets f.wr f'.lv=false:=meets_no fun id q1 q2=>A id (h1.wr id q1) (.inr (h2.lv id q2))
 have e3:meets f.wr f'.wr=false:=meets_no fun id q1 q2=>A id (h1.wr id q1) (.inr ((h2.wr id q2).imp (fun q=>q) left))
 have e4:meets f.wr f'.fz=false:=meets_no fun id q1 q2=>A id (h1.wr id q1) (.inl (h2.fz id q2))
 have e5:meets f'.wr f.rd=false:=meets_no fun id q1 q2=>B id (h2.wr id q1) (h1.rd id q2)
 have e6:meets f'.wr f.lv=false:=meets_no fun id q1 q2=>B id (h2.wr id q1) (.inr (h1.lv id q2))
 have e7:meets f'.wr f.fz=false:=meets_no fun id q1 q2=>B id (h2.wr id q1) ((h1.fz id q2).imp (fun q=>q) (fun z=> .inl (left z)))
 have e8:meets f.fz f'.lv=false:=meets_no fun id q1 q2=>(h1.fz id q1).elim (fun z=>(h2.lv id q2).elim (newd z) (fun q=>live q z)) (fun q=>A id (.inl q) (.inr (h2.lv id q2)))
 have e9:meets f'.fz f.lv=false:=meets_no fun id q1 q2=>(h1.lv id q2).elim (fun z=>live z (h2.fz id q1)) (goned (h2.fz id q1))
 simp [clash,h1.all,h2.all,e1,e2,e3,e4,e5,e6,e7,e8,e9]
def appO:Val S→Option (List Nat)
 | .nil=>some []
 | .whole o []=>some [o]
 | .win o [] _ _=>some [o]
 | _=>none
structure SX where
 wo:List Nat
 ro:List Nat
 mo:List Nat
 tp:Bool
 ent:Option ((List Nat×List Nat)×Bool)
def woN (nx:Nat):List Nat→List Nat
 | []=> [nx]
 | wo=>wo
def spX (t:TS S) (cd:Code):POp→Option SX
 | .append _ _ x y=>(match evK t x,evK t y with
  | some v,some w=>(match isOwn cd with
   | true=>(match appO v,appO w with
    | some os,some ro=>some ⟨os++ro,[],os++ro,true,some ((os++ro,[]),true)⟩
    | _,_=>none)
   | false=>(match appO v,objV w with
    | some os,some ro=>some ⟨os,ro,os,true,match disj ro os with
     | true=>some ((woN t.nx os,ro),true)
     | false=>none⟩
    | _,_=>none))
  | _,_=>none)
 | .buildSlice _ _ _ ps=>(match isOwn cd with
  | true=>some ⟨[],[],moB t ps,false,some (([t.nx],[]),true)⟩
  | false=>none)
 | _=>none
theorem appO_ok {v:Val S} {d:D} {os:List Nat} (ho:appO v=some os) (h:VS ρ H v d):(∀id,refOf d=some id→Tch ρ os id)∧ ∀o,objW v=some o→os.contains o=true:=by
 unfold appO at ho
 split at ho
 ·cases ho
  have:d= .nil:=h
  subst this
  exact ⟨fun id hr=>(nomatch hr),fun o hw=>(nomatch hw)⟩
 ·rename_i o
  cases ho
  refine ⟨fun id hr=> ?_,fun o' hw=>by cases hw;simp⟩
  rcases h with ⟨id',_,_,h1,_,rfl⟩ | ⟨_,rfl⟩
  ·cases hr;exact ⟨o,by simp,[],h1⟩
  ·cases hr
 ·rename_i o off len
  cases ho
  refine ⟨fun id hr=> ?_,fun o' hw=>by cases hw;simp⟩
  rcases h with ⟨id',_,_,h1,_,_,rfl⟩ | ⟨_,_,_,rfl⟩
  ·cases hr;exact ⟨o,by simp,[],h1⟩
  ·cases hr
 ·cases ho
theorem appO_V {v:Val S} {os:List Nat} (ho:appO v=some os):objV v=some os:=by
 unfold appO at ho
 split at ho<;>first | (cases ho;rfl) | (cases ho;done)
theorem appO_ref {v:Val S} {d:D} {os:List Nat} (ho:appO v=some os) (h:VS ρ H v d) {o id:Nat} (hm:o∈os) (hr:ρ o []=some (some id)): ∃off len,d= .ref id off len:=by
 unfold appO at ho
 split at ho
 ·cases ho;cases hm
 ·rename_i o'
  cases ho
  obtain rfl:o=o':=by simpa using hm
  rcases h with ⟨id',_,_,h1,_,rfl⟩ | ⟨h1,rfl⟩
  ·rw [hr] at h1;cases h1;exact ⟨_,_,rfl⟩
  ·rw [hr] at h1;cases h1
 ·rename_i o' off len
  cases ho
  obtain rfl:o=o':=by simpa using hm
  rcases h with ⟨id',_,_,h1,_,_,rfl⟩ | ⟨h1,_,_,rfl⟩
  ·rw [hr] at h1;cases h1;exact ⟨_,_,rfl⟩
  ·rw [hr] at h1;cases h1
 ·cases ho
theorem objV_W {v:Val S} {os:List Nat} (ho:objV v=some os): ∀o,objW v=some o→os.contains o=true:=by
 intro o hw
 cases v<;>first | (cases hw;done) | (cases hw;cases ho;simp)
theorem appO_nil {v:Val S} {os:List Nat} (ho:appO v=some os) (h:objW v=none):os= []:=by
 unfold appO at ho
 split at ho
 ·cases ho;rfl
 ·cases h
 ·cases h
 ·cases ho
theorem build_ws {call:CallF} {f:PX→D} {r sz n:Nat} {z:List D} {ps:List (Nat×PX)} {out:Out} (h:(opE call f r (.buildSlice sz n z ps)).run H=some out): ∃w,w∈out.ws:=by
 simp only [opE] at h
 split at h
 ·split at h
  ·simp only [Eff.run] at h
   split at h
   ·split at h
    ·cases h;exact ⟨_,List.mem_singleton.mpr rfl⟩
    ·cases h
   ·cases h
  ·cases h
 ·cases h
theorem noPtr_app {call:CallF} {f:PX→D} {q sz by':Nat} {x y:PX} {out:Out} (h:(opE call f q (.append sz by' x y)).run H=some out) {id off:Nat} (hy:f y= .ptr id off):False:=by
 simp only [opE,run_bindE,hy,source,Eff.run] at h
 cases h
theorem spX_ok (h:RelR fr b N ρ t g) {Γ:List (Entry S pr)} {dst:Option Nat} {res:Nat} {cd:Code} {op:POp} {gu:Option (Nat×Bool)} (hg:guardOk g.ts gu=true) (hw:wantedP g.ts gu=true) {aft:List Nat} {X:SX} (hl:spX t cd op=some X) {K:TS S→Option α} {r:α} (hr:stepT Γ N dst res cd op t K=some r) :
  ∃g1 t' g2 ρ',stepO (runN pr 0) b ⟨dst,op,gu,aft,res⟩ g=some g1∧K t'=some r∧GhK g1 g2∧RelR fr b N ρ' t' g2∧Mv X.mo ρ ρ'∧(X.tp=true→TPd ρ ρ' g2.hp)∧HLd g.hp g2.hp∧FinQ ρ g.hp X.wo X.ro (stepFp (runN pr 0) b ⟨dst,op,gu,aft,res⟩ g)∧ ∀x,X.ent=some x→TagR ρ' g2.hp x (stepFp (runN pr 0) b ⟨dst,op,gu,aft,res⟩ g):=by
 unfold spX at hl
 split at hl
 ·rename_i sz by' x y
  split at hl
  ·rename_i v w hv hw'
   obtain ⟨os,ro0,wo,ro,ho,hro,hcs,hao,hX⟩: ∃os ro0 wo ro,appO v=some os∧objV w=some ro0∧((isOwn cd=true∧wo=os++ro0∧ro= [])∨(isOwn cd=false∧wo=os∧ro=ro0))∧(isOwn cd=true→appO w=some ro0)∧X=⟨wo,ro,wo,true,match isOwn cd,disj ro wo with
     | false,true=>some ((woN t.nx wo,ro),true)
     | false,false=>none
     | true,_=>some ((wo,[]),true)⟩:=by
    split at hl
    ·rename_i hc
     split at hl
     ·rename_i os ro0 a1 a2
      cases hl
      exact ⟨os,ro0,_,_,a1,appO_V a2,.inl ⟨hc,rfl,rfl⟩,fun _=>a2,by rw [hc]⟩
     ·cases hl
    ·rename_i hc
     split at hl
     ·rename_i os ro0 a1 a2
      cases hl
      exact ⟨os,ro0,_,_,a1,a2,.inr ⟨hc,rfl,rfl⟩,(fun e=>by rw [hc] at e;cases e),by rw [hc];cases disj ro0 os<;>rfl⟩
     ·cases hl
   subst hX
   obtain ⟨x1,x2⟩:=appO_ok ho (h.ev hv)
   have y2:=objV_W hro
   have y1: ∀id,refOf (y.ev g.ts)=some id→dead g.hp id∨Tch ρ ro0 id:=fun id hid=>obj_ref hro (h.ev hw') hid
   have hwo: ∀o∈os,o∈wo:=fun o q=>by rcases hcs with ⟨_,rfl,_⟩ | ⟨_,rfl,_⟩<;>simp [q]
   have hwr: ∀o∈ro0,o∈wo++ro:=fun o q=>by rcases hcs with ⟨_,rfl,rfl⟩ | ⟨_,rfl,rfl⟩<;>simp [q]
   unfold stepT at hr
   split at hr
   ·cases hr
   ·rename_i hd
    have hr:op1 dst res cd (.append sz by' x y) t K=some r:=hr
    have hp:pureK t (.append sz by' x y)=none:=rfl
    unfold op1 at hr
    rw [hp] at hr
    have got: ∀call:CallF, ∃out ρ' t',(opE call (PX.ev g.ts) (b+res) (.append sz by' x y)).run g.hp=some out∧RelR fr b N ρ' t' ⟨putT g.ts dst out.d,out.on g.hp⟩∧(Mv wo ρ ρ'∧(isOwn cd=false→NewW t.nx wo ρ' out.ws∧TPd ρ ρ' (out.on g.hp))∧(isOwn cd=true→(∀w∈out.ws,w.2= .dead ∨ ∃o,wo.contains o=true∧ρ' o []=some (some w.1))∧(∀id off len,x.ev g.ts= .ref id off len→hat (out.on g.hp) id= .dead)∧ ∀id off len,y.ev g.ts= .ref id off len→(∀o p,ρ' o p≠some (some id))∧fr id=none∧ ∃sz es,hat (out.on g.hp) id= .row sz es true))∧K t'=some r:=by
     have hr:(match isOwn cd with
      | true=>opAppendP dst res sz by' x y t K
      | false=>opAppend dst res cd sz by' x y t K)=some r:=hr
     rcases hcs with ⟨hc,rfl,rfl⟩ | ⟨hc,rfl,rfl⟩
     ·rw [hc] at hr
      have:=opAppendP_okM (wo:=os++ro0) h hd (fun v' o e1 e2=> ?_) (fun v' o e1 e2=> ?_) hr
      ·exact fun call=>let ⟨out,ρ',t',a,b,c,d⟩:=this call; ⟨out,ρ',t',a,b,⟨c.1,(fun e=>by rw [hc] at e;cases e),fun _=>c.2⟩,d⟩
      ·rw [hv] at e1;cases e1
       have:=x2 o e2
       simp only [List.contains_eq_mem,decide_eq_true_eq,List.mem_append] at this ⊢
       exact .inl this
      ·rw [hw'] at e1;cases e1
       have:=y2 o e2
       simp only [List.contains_eq_mem,decide_eq_true_eq,List.mem_append] at this ⊢
       exact .inr this
     ·rw [hc] at hr
      have:=opAppend_okN h hd (fun v' o e1 e2=>by rw [hv] at e1;cases e1;exact x2 o e2) (fun v' e1 e2=>by rw [hv] at e1;cases e1;exact appO_nil ho e2) hr
      exact fun call=>let ⟨out,ρ',t',a,b,c,d⟩:=this call; ⟨out,ρ',t',a,b,⟨c.1,(fun _=>c.2),fun e=>by rw [hc] at e;cases e⟩,d⟩
    obtain ⟨out,ρ',t',k1,k2,⟨k3,k3',k3o⟩,k4⟩:=got (runN pr 0)
    obtain ⟨e1,e2⟩:=stepO_fpK (dst:=dst) (aft:=aft) hg hw k1
    obtain ⟨a1,a2,a3,a4,a5⟩:=append_touch k1
    have tx: ∀ {id},refOf (x.ev g.ts)=some id→Tch ρ wo id:=fun hid=>(x1 _ hid).up hwo (fun _ _ _ q=>q)
    have left: ∀ {id},Tch ρ wo id→Tch ρ (wo++ro) id:=fun q=>q.up (fun o ho=>List.mem_append_left _ ho) (fun _ _ _ q=>q)
    have hle:HLe g.hp (out.on g.hp):=by
     have hon:out.on g.hp=doWs g.hp out.ws:=by unfold Out.on;rw [a4];rfl
     rw [hon]
     have: ∀(ws:List (Nat×Blk)) (H:Heap),(∀w∈ws, ∀sz es,hat H w.1 ≠ .row sz es false)→(∀w∈ws, ∀w'∈ws, ∀sz es,w'.2 ≠ .row sz es false)→HLe H (doWs H ws):=by
      intro ws
      induction ws with
      | nil=>intro H _ _;exact HLe.refl _
      | cons w ws ih=>
       intro H h1 h2
       have s1:HLe H (H.set w.1 w.2):=HLe_set (fun sz es=>h1 w (by simp) sz es)
       refine s1.tr (ih (H.set w.1 w.2) (fun w' hw' sz es hq=> ?_) (fun a ha b hb=>h2 a (by simp [ha]) b (by simp [hb])))
       rcases Nat.lt_or_ge w.1 H.length with hl | hl
       ·rw [hat_setK hl] at hq
        split at hq
        ·exact h2 w (by simp) w (by simp) sz es hq
        ·exact h1 w' (by simp [hw']) sz es hq
       ·rw [List.set_eq_of_length_le hl] at hq
        exact h1 w' (by simp [hw']) sz es hq
     refine this out.ws g.hp a5 (fun w _ w' hw' sz es=> ?_)
     exact append_blk k1 w' hw' sz es
    have hdd:Dd g.hp (out.on g.hp):=Dd.of (GhH.refl _) (fun w hw=>by
     rcases a3 w hw with q | ⟨_,_,_,q⟩<;>rw [q]<;>simp)
    have fq:FinQ ρ g.hp wo ro (stepFp (runN pr 0) b ⟨dst,.append sz by' x y,gu,aft,res⟩ g):=by
     rw [e2]
     exact ⟨rfl,fun id hid=>(a1 id hid).elim (fun q=>(y1 id q).imp (fun q=>q) (fun q=>q.up hwr (fun _ _ _ q=>q))) (fun q=> .inr (left (tx q.1))),(fun id hid=>by have hid:id∈out.fz:=hid;rw [a4] at hid;cases hid),fun id hid=>(a2 id hid).imp (fun q=>q) (fun q=>left (tx q.1)),fun id hid=>by
      obtain ⟨w,hw1,rfl⟩:=List.mem_map.mp hid
      exact (a3 w hw1).imp (fun q=>q) (fun q=>tx q.1)⟩
    cases hc:isOwn cd with
    | true=>
     obtain ⟨nw,hx2,hy2⟩:=k3o hc
     obtain ⟨hwo',hro'⟩:wo=os++ro0∧ro= []:=by
      rcases hcs with ⟨_,e1,e2⟩ | ⟨e,_,_⟩
      ·exact ⟨e1,e2⟩
      ·rw [hc] at e;cases e
     have tw: ∀w∈out.ws,Top ρ' wo w.1∨hat (out.on g.hp) w.1= .dead:=fun w hw=>by
      rcases nw w hw with q | ⟨o,q1,q2⟩
      ·exact .inr (append_dead k1 w hw q)
      ·exact .inl ⟨o,by simpa using q1,q2⟩
     obtain ⟨c1,c2⟩:=append_ids k1
     obtain ⟨g2,q1,q2,q3,q4⟩: ∃g2:St,GhK ⟨putT g.ts dst out.d,out.on g.hp⟩ g2∧RelR fr b N ρ' t' g2∧HLd (out.on g.hp) g2.hp∧ ∀id,refOf (y.ev g.ts)=some id→hat g2.hp id= .dead:=by
      cases hyv:y.ev g.ts with
      | ref id off len=>
       obtain ⟨z1,z2,sz2,es2,z3⟩:=hy2 id off len hyv
       obtain ⟨r1,r2⟩:=k2.kill .dead z3 z1 z2
       have hlt:id<(out.on g.hp).length:=hat_ltK (by rw [z3];simp)
       refine ⟨⟨putT g.ts dst out.d,(out.on g.hp).set id .dead⟩,⟨rfl,by simp,fun j=> ?_⟩,r1,⟨r2.hle,fun j hj=> ?_⟩,fun id' hid=> ?_⟩
       ·show hat ((out.on g.hp).set id _) j=hat (out.on g.hp) j∨_
        rw [hat_setK hlt]
        split
        ·rename_i e;subst e
         exact .inr (.inr ⟨_,_,_,z3,rfl⟩)
        ·exact .inl rfl
       ·show hat ((out.on g.hp).set id _) j=_
        rw [hat_setK hlt,if_neg (fun e=>by subst e;rw [z3] at hj;cases hj)]
        exact hj
       ·cases hid
        show hat ((out.on g.hp).set id _) id=_
        rw [hat_setK hlt,if_pos rfl]
      | ptr id off=>exact (noPtr_app k1 hyv).elim
      | _=>exact ⟨_,GhK.refl _,k2,⟨HLe.refl _,Dd.refl _⟩,fun id' hid=>by cases hid⟩
     have tpd:TPd ρ ρ' g2.hp:=fun o' id e=>by
      cases hco:wo.contains o' with
      | false=>exact .inl (k3 o' [] _ hco e)
      | true=>
       right
       have hm:o'∈os++ro0:=by rw [← hwo'];simpa using hco
       rcases List.mem_append.mp hm with hm | hm
       ·obtain ⟨off,len,ex⟩:=appO_ref ho (h.ev hv) hm e
        exact q3.2 id (hx2 id off len ex)
       ·obtain ⟨off,len,ey⟩:=appO_ref (hao hc) (h.ev hw') hm e
        exact q4 id (by rw [ey];rfl)
     refine ⟨_,t',g2,ρ',e1,k4,q1,q2,k3,fun _=>tpd,⟨hle.tr q3.1,fun id e=>q3.2 id (hdd id e)⟩,fq,?_⟩
     intro x hx
     cases hx
     rw [e2]
     have tw2: ∀w∈out.ws,Top ρ' wo w.1∨hat g2.hp w.1= .dead:=fun w hw=>(tw w hw).imp (fun z=>z) (q3.2 w.1)
     refine ⟨rfl,fun id hid=> ?_,(fun id hid=>by have hid:id∈out.fz:=hid;rw [a4] at hid;cases hid),fun id hid=> ?_,fun id hid=> ?_⟩
     ·rcases c1 id hid with q | ⟨w,hw,rfl⟩
      ·exact .inr (.inr (.inr (q4 id q)))
      ·exact .inr ((tw2 w hw).imp (fun z=>z) .inr)
     ·obtain ⟨w,hw,rfl⟩:=c2 id hid
      exact (tw2 w hw).imp (fun z=>z) .inr
     ·obtain ⟨w,hw,rfl⟩:=List.mem_map.mp hid
      exact tw2 w hw
    | false=>
    refine ⟨_,t',_,ρ',e1,k4,GhK.refl _,k2,k3,fun e=>(k3' hc).2,⟨hle,hdd⟩,fq,?_⟩
    ·intro x hx
     cases hdis:disj ro wo with
     | false=>rw [hdis] at hx;cases hx
     | true=>
     rw [hdis] at hx
     cases hx
     rw [e2]
     obtain ⟨nw,_⟩:=k3' hc
     obtain ⟨hwo',hro'⟩:wo=os∧ro=ro0:=by
      rcases hcs with ⟨e,_,_⟩ | ⟨_,e1,e2⟩
      ·rw [hc] at e;cases e
      ·exact ⟨e1,e2⟩
     have inN: ∀o,(wo.contains o=true∨(wo= []∧o=t.nx))→o∈woN t.nx wo:=by
      intro o ho
      rcases ho with ho | ⟨ho,rfl⟩
      ·cases wo with
       | nil=>simp at ho
       | cons a l=>simpa [woN] using ho
      ·rw [ho];simp [woN]
     have roT: ∀ {id},Tch ρ ro0 id→Tch ρ' ro id:=fun ⟨o,q1,p,q2⟩=>⟨o,by rw [hro'];exact q1,p,k3 _ _ _ (by
      have:=List.all_eq_true.mp hdis o (by rw [hro'];exact q1)
      simpa using this) q2⟩
     have tw: ∀w∈out.ws,Top ρ' (woN t.nx wo) w.1∨hat (out.on g.hp) w.1= .dead:=fun w hw=>by
      rcases nw w hw with q | ⟨o,q1,q2⟩
      ·exact .inr (append_dead k1 w hw q)
      ·exact .inl ⟨o,inN o q1,q2⟩
     obtain ⟨c1,c2⟩:=append_ids k1
     refine ⟨rfl,fun id hid=> ?_,(fun id hid=>by have hid:id∈out.fz:=hid;rw [a4] at hid;cases hid),fun id hid=> ?_,fun id hid=> ?_⟩
     ·rcases c1 id hid with q | ⟨w,hw,rfl⟩
      ·exact (y1 id q).imp (dead_le hle) (fun z=> .inr (.inl (roT z)))
      ·exact .inr ((tw w hw).imp (fun z=>z) .inr)
     ·obtain ⟨w,hw,rfl⟩:=c2 id hid
      exact (tw w hw).imp (fun z=>z) .inr
     ·obtain ⟨w,hw,rfl⟩:=List.mem_map.mp hid
      exact tw w hw
  ·cases hl
 ·rename_i sz n z ps
  split at hl
  ·rename_i hc
   cases hl
   unfold stepT at hr
   split at hr
   ·cases hr
   ·rename_i hd
    have hr:op1 dst res cd (.buildSlice sz n z ps) t K=some r:=hr
    have hp:pureK t (.buildSlice sz n z ps)=none:=rfl
    unfold op1 at hr
    rw [hp] at hr
    have got:GotB t.nx (moB t ps) ρ fr b N g (.buildSlice sz n z ps) res dst (fun t'=>K t'=some r):=by
     simp only at hr
     split at hr
     ·split at hr
      ·exact opBuildZ_okM h hd hr
      ·exact opBuildO_okM h hd hr
     ·rename_i hno
      exfalso
      cases cd<;>first | (cases hc;done) | exact hno _ rfl
    obtain ⟨out,ρ',t',k1,k2,⟨k3,k3'⟩,k4⟩:=got (runN pr 0)
    obtain ⟨e1,e2⟩:=stepO_fpK (dst:=dst) (aft:=aft) hg hw k1
    obtain ⟨a1,a2,a3,a4,_⟩:=opE_touch (op:= .buildSlice sz n z ps) rfl k1
    have hf:=new_fresh (op:= .buildSlice sz n z ps) rfl k1
    have w1: ∀w∈out.ws,w.1=b+res:=fun w hw=>by
     rcases a3 w hw with ⟨e,_⟩ | ⟨_,hx,_⟩
     ·exact e
     ·cases hx
    have l1: ∀id∈(opE (runN pr 0) (PX.ev g.ts) (b+res) (.buildSlice sz n z ps)).lv g.hp,id=b+res:=fun id hid=>by
     rcases a2 id hid with ⟨e,_⟩ | ⟨_,hx,_⟩
     ·exact e
     ·cases hx
    have hws:=build_ws k1
    have tw:ρ' t.nx []=some (some (b+res)):=by
     obtain ⟨w,hw⟩:=hws
     have:=k3' w hw
     rwa [w1 w hw] at this
    have hdd:Dd g.hp (out.on g.hp):=Dd.of (GhH.refl _) (fun w hw=>by rw [w1 w hw,hf];simp)
    have hle:HLe g.hp (out.on g.hp):=by
     have hon:out.on g.hp=doWs g.hp out.ws:=by unfold Out.on;rw [a4];rfl
     rw [hon]
     intro id sz' es' q
     rw [doWs_otherK _ _ _ (fun w hw e=>by rw [← e,w1 w hw,hf] at q;cases q)]
     exact q
    refine ⟨_,t',_,ρ',e1,k4,GhK.refl _,k2,k3,fun e=>(by cases e),⟨hle,hdd⟩,?_,?_⟩
    ·rw [e2]
     exact ⟨rfl,fun id hid=>(by obtain ⟨_,hx,_⟩:=a1 id hid;cases hx),(fun id hid=>by have hid:id∈out.fz:=hid;rw [a4] at hid;cases hid),fun id hid=> .inl (by rw [l1 id hid];exact hf),fun id hid=> .inl (by
      obtain ⟨w,hw,rfl⟩:=List.mem_map.mp hid
      rw [w1 w hw];exact hf)⟩
    ·intro x hx
     cases hx
     rw [e2]
     exact ⟨rfl,fun id hid=>(by obtain ⟨_,hx,_⟩:=a1 id hid;cases hx),(fun id hid=>by have hid:id∈out.fz:=hid;rw [a4] at hid;cases hid),fun id hid=> .inl ⟨t.nx,by simp,by rw [l1 id hid];exact tw⟩,fun id hid=> .inl ⟨t.nx,by simp,by
      obtain ⟨w,hw,rfl⟩:=List.mem_map.mp hid
      rw [w1 w hw];exact tw⟩⟩
  ·cases hl
 ·cases hl
def plainCC (Γ:List (Entry S pr)):POp→Option (Ent S pr×List (Nat×PX))
 | .call f args=>(match findE Γ f with
  | some (.plain e)=>some (e,args)
  | _=>none)
 | _=>none
def callPC (e:Ent S pr) (dst:Option Nat) (res:Nat) (args:List (Nat×PX)) (t:TS S) (K:TS S→Option α):Option α:=match argsA (clearTo t []) false e.ps args with
 | some p=>(e.F p).bind fun r=>match impT e.rs r res t with
  | some q=>K (q.2.putD dst (retT e.rs q.1))
  | none=>none
 | none=>none
theorem callPC_ok (h:RelR fr b N ρ t g) {Γ:List (Entry S pr)} {op:POp} {e:Ent S pr} {args:List (Nat×PX)} (hp:plainCC Γ op=some (e,args)) {dst:Option Nat} (hd:dstK N dst=true) {res:Nat} {gu:Option (Nat×Bool)} (hg:guardOk g.ts gu=true) (hw:wantedP g.ts gu=true) {aft:List Nat} {K:TS S→Option α} {r:α} (hr:callPC e dst res args t K=some r) :
  ∃n g1 t' g2 ρ',stepO (runN pr n) b ⟨dst,op,gu,aft,res⟩ g=some g1∧K t'=some r∧GhK g1 g2∧RelR fr b N ρ' t' g2∧(∀o p x,ρ o p=some x→ρ' o p=some x)∧HLd g.hp g2.hp∧FinQ ρ g.hp [] [] (stepFp (runN pr n) b ⟨dst,op,gu,aft,res⟩ g)∧(ownOne e.rs=true→FinM ρ' g2.hp [t.nx] [] (stepFp (runN pr n) b ⟨dst,op,gu,aft,res⟩ g)):=by
 unfold plainCC at hp
 split at hp
 ·rename_i f args'
  split at hp
  ·rename_i e' he
   cases hp
   unfold callPC at hr
   split at hr
   ·rename_i p hpa
    simp only [Option.bind_eq_some_iff] at hr
    obtain ⟨v,hv,hr⟩:=hr
    split at hr
    ·rename_i q hq
     have hc:=h.clear (P:=fun o _ => !([]:List Nat).contains o) (fun _ _ q=>q)
     obtain ⟨ds,ids,p1,p2,p3⟩:=argsA_ok hc (j:=0) hpa
     have p3': ∀y∈ids,dead g.hp y:=fun y hy=>by
      rcases p3 y hy with q | ⟨q,_⟩
      ·exact q
      ·cases q
     obtain ⟨n,d,H',r1,r2,xs,hh,rd,e1,e2,e3,e4⟩:=e.ok p v hv ds p2
     obtain ⟨g',ρ',k1,k2,k3,k4,k5⟩:=imp_ok (k:=res) e4 (GhK.refl g) h hq
     have hl:(impL (b+res) xs).1.length=e.rs.length:=by
      have: ∀ {l:List D} {r:Nat},(impL r l).1.length=l.length:=by
       intro l
       induction l with
       | nil=>intro r;rfl
       | cons d l ih=>intro r;simp [impL,ih]
      rw [this,e4.len]
     have h1:(hh.all fun x => !rd.contains x)=true:=e3
     have h2:(hh.all fun x => !([]:List Nat).contains x)=true:=by simp
     have hrun:(callE (runN pr n) (b+res) f (args.map fun p=>(p.1,p.2.ev g.ts))).run g.hp=some ⟨recomp d (impL (b+res) xs).1,(impL (b+res) xs).2,if xs.all scalV=true then [] else ids⟩:=by
      rw [← show e.f=f from findE_ok he]
      simp only [callE,run_bindE,p1,Option.bind_some,List.map_nil,nodup,apart,List.all_nil,Bool.and_self,if_true,r1,finish,e1,expB,boxKs]
      simp only [e2,List.isEmpty_nil,Bool.true_and,List.nil_append]
      simp only [h1,h2,Bool.and_self,if_true]
      rw [newL_run k5]
      rfl
     have hfz: ∀y∈(if xs.all scalV=true then [] else ids),dead g.hp y:=fun y hy=>by
      split at hy
      ·cases hy
      ·exact p3' y hy
     have hon:Out.on ⟨recomp d (impL (b+res) xs).1,(impL (b+res) xs).2,if xs.all scalV=true then [] else ids⟩ g.hp=doWs g.hp (impL (b+res) xs).2:=by
      have hle2:HLe g.hp (doWs g.hp (impL (b+res) xs).2):=fun id sz es hq=>by
       rw [doWs_otherK _ _ _ (fun w hw e=>by
        have:=(k5 w.1 (List.mem_map.mpr ⟨w,hw,rfl⟩)).1
        rw [e,hq] at this;cases this)]
       exact hq
      exact doFz_dead fun j hj=>dead_le hle2 (hfz j hj)
     obtain ⟨q1,q2⟩:=stepO_fpK (op:= .call f args) (dst:=dst) (aft:=aft) (res:=res) hg hw hrun
     rw [hon] at q1
     refine ⟨n,_,_,_,ρ',q1,hr,put_gh (o:=⟨recomp d (impL (b+res) xs).1,(impL (b+res) xs).2,[]⟩) k1,k2.putD hd (ret_ok r2 hl k4),k3.map,⟨k3.hle,Dd.of (o:=⟨recomp d (impL (b+res) xs).1,(impL (b+res) xs).2,[]⟩) k1.hp (fun w hw=>by
       rw [(k5 w.1 (List.mem_map.mpr ⟨w,hw,rfl⟩)).1];simp)⟩,?_⟩
     rw [q2]
     have hz: ∀a∈args.map (fun p=>(p.1,p.2.ev g.ts)),a.1=0:=fun a ha=>by
      obtain ⟨y,hy,rfl⟩:=List.mem_map.mp ha
      exact argsA_zero hpa y hy
     have hcont:(callE (runN pr n) (b+res) f (args.map fun p=>(p.1,p.2.ev g.ts))).rd g.hp=(prep (args.map fun p=>(p.1,p.2.ev g.ts)) 0).rd g.hp∧(callE (runN pr n) (b+res) f (args.map fun p=>(p.1,p.2.ev g.ts))).lv g.hp=(prep (args.map fun p=>(p.1,p.2.ev g.ts)) 0).lv g.hp++(impL (b+res) xs).2.map (·.1):=by
      rw [← show e.f=f from findE_ok he]
      unfold callE
      rw [(bind_rd p1).1,(bind_rd p1).2]
      simp only [List.map_nil,nodup,apart,List.all_nil,Bool.and_self,if_true,r1,finish,e1,expB,boxKs,Option.bind_some]
      simp only [e2,List.isEmpty_nil,Bool.true_and,List.nil_append]
      simp only [h1,h2,Bool.and_self,if_true]
      rw [newL_rd.1,newL_rd.2,List.append_nil]
      exact ⟨rfl,rfl⟩
     obtain ⟨m1,m2⟩:=prep_rd hz p1
     have hrd: ∀y∈(callE (runN pr n) (b+res) f (args.map fun p=>(p.1,p.2.ev g.ts))).rd g.hp,dead g.hp y:=fun y hy=>by
      rw [hcont.1] at hy
      exact p3' y (m1 y hy)
     have hlv: ∀y∈(callE (runN pr n) (b+res) f (args.map fun p=>(p.1,p.2.ev g.ts))).lv g.hp,y∈(impL (b+res) xs).2.map (·.1):=fun y hy=>by
      rw [hcont.2,m2,List.nil_append] at hy
      exact hy
     refine ⟨⟨rfl,fun y hy=> .inl (hrd y hy),fun y hy=>hfz y hy,fun y hy=> .inl (k5 y (hlv y hy)).1,fun y hy=> .inl (k5 y hy).1⟩,fun ho=> ?_⟩
     have hnew:=own_new ho e4 hq k4
     have top: ∀id∈(impL (b+res) xs).2.map (·.1),Top ρ' [t.nx] id:=own_top ho e4 hq k4
     exact ⟨rfl,fun y hy=> .inl (dead_le k3.hle (hrd y hy)),fun y hy=>dead_le k3.hle (hfz y hy),fun y hy=> .inl (top y (hlv y hy)),fun y hy=> .inl (top y hy)⟩
    ·cases hr
   ·cases hr
  ·cases hp
 ·cases hp
abbrev SnK:=List (Nat×Option ((List Nat×List Nat)×Bool))
def okSeenK (aft:List Nat) (wo ro:List Nat) (seen:SnK):Bool:=seen.all fun p=>aft.contains p.1 || (match p.2 with
 | some ((wo',ro'),_)=>disj wo' (wo++ro)&&disj wo (wo'++ro')
 | none=>false)
def allAft (aft:List Nat) (seen:SnK):Bool:=seen.all fun p=>aft.contains p.1
def fgK (seen:SnK):SnK:=seen.map fun p=>(p.1,none)
def keepT (mo:List Nat) (tp:Bool):Option ((List Nat×List Nat)×Bool)→Option ((List Nat×List Nat)×Bool)
 | some ((wo,ro),m)=>(match disj (wo++ro) mo with
  | true=>some ((wo,ro),m)
  | false=>(match m&&tp&&disj ro mo with
   | true=>some ((wo,ro),m)
   | false=>none))
 | none=>none
def fgO (mo:List Nat) (tp:Bool) (seen:SnK):SnK:=seen.map fun p=>(p.1,keepT mo tp p.2)
def dOne (Γ:List (Entry S pr)) (N:Nat) (o:AOD) (i:Nat) (seen:SnK) (t:TS S) (K:SnK→TS S→Option α):Option α:=match lentD Γ t o.op with
 | some ob=>(match okSeenK o.aft [ob] [] seen with
  | true=>stepT Γ N o.dst o.res o.cd o.op t fun t=>K ((i,some (([ob],[]),false))::seen) t
  | false=>none)
 | none=>(match dstK N o.dst with
  | false=>none
  | true=>(match plainCK Γ o.op with
   | some (e,args)=>(match okSeenK o.aft (woC t.nx e.rs) (argR t args) seen with
    | true=>callPD e o.dst o.res args t fun t'=>K ((i,some ((woC t.nx e.rs,argR t args),false))::seen) t'
    | false=>none)
   | none=>(match tagO t o.cd o.op with
    | some .q=>op1X o.dst o.res o.cd o.op t fun t=>K seen t
    | some (.s wo ro)=>(match okSeenK o.aft wo ro seen with
     | true=>op1X o.dst o.res o.cd o.op t fun t=>K ((i,some ((wo,ro),false))::seen) t
     | false=>none)
    | some (.n x)=>(match okSeenK o.aft [x] [] seen with
     | true=>op1X o.dst o.res o.cd o.op t fun t=>K ((i,some (([x],[]),true))::seen) t
     | false=>none)
    | none=>(match spX t o.cd o.op with
     | some X=>(match okSeenK o.aft X.wo X.ro seen with
      | true=>stepT Γ N o.dst o.res o.cd o.op t fun t'=>K ((i,X.ent)::fgO X.mo X.tp seen) t'
      | false=>none)
     | none=>(match plainCC Γ o.op with
      | some (e,args)=>(match isSm (argsA (clearTo t []) false e.ps args) with
       | true=>(match okSeenK o.aft [] [] seen with
        | true=>callPC e o.dst o.res args t fun t'=>K ((i,match ownOne e.rs with
         | true=>some (([t.nx],[]),true)
         | false=>none)::seen) t'
        | false=>none)
       | false=>(match allAft o.aft seen with
        | true=>stepT Γ N o.dst o.res o.cd o.op t fun t=>K ((i,none)::fgK seen) t
        | false=>none))
      | none=>(match allAft o.aft seen with
       | true=>stepT Γ N o.dst o.res o.cd o.op t fun t=>K ((i,none)::fgK seen) t
       | false=>none))))))
def dG (Γ:List (Entry S pr)) (N:Nat) (o:AOD) (i:Nat) (seen:SnK) (t:TS S) (K:SnK→TS S→Option α):Option α:=match o.gu with
 | none=>dOne Γ N o i seen t K
 | some (gt,gb)=>(match look t.sl gt,dstK N o.dst&&Nat.blt gt N with
  | some .skip,true=>K seen (t.putD o.dst .skip)
  | some (.one _ .bool v),true=>cond v (match gb with
    | true=>dOne Γ N o i seen (t.put gt (boolV true)) K
    | false=>K seen ((t.put gt (boolV true)).putD o.dst .skip))
   (match gb with
    | true=>K seen ((t.put gt (boolV false)).putD o.dst .skip)
    | false=>dOne Γ N o i seen (t.put gt (boolV false)) K)
  | _,_=>none)
def opsDT (Γ:List (Entry S pr)) (N:Nat):List AOD→Nat→SnK→TS S→(TS S→Option α)→Option α
 | [],_,_,t,K=>K t
 | o::os,i,seen,t,K=>dG Γ N o i seen t fun seen t=>opsDT Γ N os (i+1) seen t K
def SnR (ρ:Rho) (H:Heap) (sn:List (Nat×Fp)) (seen:SnK):Prop:= ∀p∈sn,noFpK p.2 ∨ ∃tg,(p.1,tg)∈seen∧match tg with
 | some x=>TagR ρ H x p.2
 | none=>True
theorem SnR.up {sn:List (Nat×Fp)} {seen:SnK} (h:SnR ρ H sn seen) (hm: ∀o p x,ρ o p=some x→ρ' o p=some x) (hh:HLd H H'):SnR ρ' H' sn seen:=fun p hp=>by
 rcases h p hp with q | ⟨tg,q1,q2⟩
 ·exact .inl q
 ·refine .inr ⟨tg,q1,?_⟩
  cases tg with
  | none=>trivial
  | some x=>exact TagR.up q2 (fun o p x _=>hm o p x) hh
theorem clash_nlK {f g:Fp} (h:noFpK f):clash f g=false:=by
 rw [h]
 have: ∀xs:List Nat,meets xs []=false:=fun xs=>by induction xs<;>simp_all [meets]
 simp [clash,Fp.idle,this,show ∀xs:List Nat,meets [] xs=false from fun _=>rfl]
theorem clash_nrK {f g:Fp} (h:noFpK g):clash f g=false:=by
 rw [h]
 have: ∀xs:List Nat,meets xs []=false:=fun xs=>by induction xs<;>simp_all [meets]
 simp [clash,Fp.idle,this,show ∀xs:List Nat,meets [] xs=false from fun _=>rfl]
theorem TgR_g {wo ro:List Nat} {f:Fp} (h:TgR ρ H (.s wo ro) f):FinG ρ H wo ro f:=Fin'.toG h
theorem seen_ok (h:RelR fr b N ρ t g) {sn:List (Nat×Fp)} {seen:SnK} (hs:SnR ρ g.hp sn seen) {aft:List Nat} {wo ro:List Nat} {f:Fp} (hf:Fin' ρ g.hp wo ro f) (hk:okSeenK aft wo ro seen=true):(sn.all fun p=>aft.contains p.1 || !clash p.2 f)=true:=by
 rw [List.all_eq_true]
 intro p hp
 rcases hs p hp with q | ⟨tg,q1,q2⟩
 ·rw [clash_nlK q];simp
 ·have:=List.all_eq_true.mp hk _ q1
  simp only [Bool.or_eq_true] at this
  rcases this with q | q
  ·rw [q];rfl
  ·cases tg with
   | none=>cases q
   | some x=>rw [clash_noG h (TagR.toG q2) hf q];simp
theorem StepsD.ghK {os:List PO} {i:Nat} {sn:List (Nat×Fp)} {Q:St→Prop} (h:GhK s g) (k:StepsD pr b os i sn g Q):StepsD pr b os i sn s (fun s'=> ∃g',GhK s' g'∧Q g'):=by
 obtain ⟨n,g',k1,k2⟩:=k
 obtain ⟨s',k3,k4⟩:=seqD_gh (runN_gh pr n) h k1
 exact ⟨n,s',k3,g',k4,k2⟩
theorem StepsD.consK {o:PO} {os:List PO} {i m:Nat} {sn:List (Nat×Fp)} {s1:St} {Q:St→Prop} (h:stepO (runN pr m) b o s=some s1) (hf:(sn.all fun p=>o.after.contains p.1 || !clash p.2 (stepFp (runN pr m) b o s))=true)
  (k:StepsD pr b os (i+1) ((i,stepFp (runN pr m) b o s)::sn) s1 Q):StepsD pr b (o::os) i sn s Q:=by
 obtain ⟨j,s',h3,h4⟩:=k
 obtain ⟨e1,e2⟩:=stepO_mono (runN_mono pr (Nat.le_max_left m j)) h
 refine ⟨max m j,s',?_,h4⟩
 simp only [seqD,e1,e2,Option.bind_some,hf,if_true]
 exact seqD_mono (runN_mono pr (Nat.le_max_right m j)) h3
def Did (pr:Prog) (fr:Fr) (b N:Nat) (o:AOD) (i:Nat) (sn:List (Nat×Fp)) (g:St) (K:SnK→TS S→Option α) (r:α):Prop:=
 ∃n g1 t' g2 ρ' seen',stepO (runN pr n) b o.er g=some g1∧(sn.all fun p=>o.aft.contains p.1 || !clash p.2 (stepFp (runN pr n) b o.er g))=true∧K seen' t'=some r∧GhK g1 g2∧RelR fr b N ρ' t' g2∧SnR ρ' g2.hp ((i,stepFp (runN pr n) b o.er g)::sn) seen'
theorem dOne_ok (h:RelR fr b N ρ t g) {Γ:List (Entry S pr)} {o:AOD} (hg:guardOk g.ts o.gu=true) (hw:wantedP g.ts o.gu=true) {i:Nat} {seen:SnK} {sn:List (Nat×Fp)} (hs:SnR ρ g.hp sn seen) {K:SnK→TS S→Option α} {r:α} (hr:dOne Γ N o i seen t K=some r):Did pr fr b N o i sn g K r:=by
 unfold dOne at hr
 split at hr
 ·rename_i ob hob
  split at hr
  ·rename_i hk
   obtain ⟨n,g1,t',g2,ρ',k1,k2,k3,k4,k5,k6,k7⟩:=lentX_ok (aft:=o.aft) h hg hw hob hr
   have hs':=hs.up k5 k6
   refine ⟨n,g1,t',g2,ρ',_,k1,seen_ok k4 hs' k7 hk,k2,k3,k4,fun p hp=> ?_⟩
   rcases List.mem_cons.mp hp with rfl | hp
   ·exact .inr ⟨some (([ob],[]),false),by simp,k7.toG⟩
   ·rcases hs' p hp with q | ⟨tg,q1,q2⟩
    ·exact .inl q
    ·exact .inr ⟨tg,by simp [q1],q2⟩
  ·cases hr
 ·split at hr
  ·cases hr
  ·rename_i hd
   split at hr
   ·rename_i e args hpl
    split at hr
    ·rename_i hk
     obtain ⟨n,g1,t',g2,ρ',k1,k2,k3,k4,k5,k6,k7⟩:=callPD_ok (aft:=o.aft) h hpl hd hg hw hr
     have hs':=hs.up k5 k6
     refine ⟨n,g1,t',g2,ρ',_,k1,seen_ok k4 hs' k7 hk,k2,k3,k4,fun p hp=> ?_⟩
     rcases List.mem_cons.mp hp with rfl | hp
     ·exact .inr ⟨some ((woC t.nx e.rs,argR t args),false),by simp,k7.toG⟩
     ·rcases hs' p hp with q | ⟨tg,q1,q2⟩
      ·exact .inl q
      ·exact .inr ⟨tg,by simp [q1],q2⟩
    ·cases hr
   ·split at hr
    ·rename_i htg
     obtain ⟨g1,t',ρ',k1,k2,k3,k4,k5,k6⟩:=stepX_ok (pr:=pr) (aft:=o.aft) h hd hg hw (tagO_ok htg) hr
     have hs':=hs.up k4 k5
     refine ⟨0,g1,t',g1,ρ',_,k1,?_,k2,GhK.refl _,k3,fun p hp=> ?_⟩
     ·rw [List.all_eq_true]
      intro p hp
      show (o.aft.contains p.1 || !clash p.2 (stepFp (runN pr 0) b ⟨o.dst,o.op,o.gu,o.aft,o.res⟩ g))=true
      rw [clash_nrK k6];simp
     ·rcases List.mem_cons.mp hp with rfl | hp
      ·exact .inl k6
      ·exact hs' p hp
    ·rename_i wo ro htg
     split at hr
     ·rename_i hk
      obtain ⟨g1,t',ρ',k1,k2,k3,k4,k5,k6⟩:=stepX_ok (pr:=pr) (aft:=o.aft) h hd hg hw (tagO_ok htg) hr
      have hs':=hs.up k4 k5
      refine ⟨0,g1,t',g1,ρ',_,k1,seen_ok k3 hs' k6 hk,k2,GhK.refl _,k3,fun p hp=> ?_⟩
      rcases List.mem_cons.mp hp with rfl | hp
      ·exact .inr ⟨some ((wo,ro),false),by simp,TgR_g k6⟩
      ·rcases hs' p hp with q | ⟨tg,q1,q2⟩
       ·exact .inl q
       ·exact .inr ⟨tg,by simp [q1],q2⟩
     ·cases hr
    ·rename_i x htg
     split at hr
     ·rename_i hk
      obtain ⟨g1,t',ρ',k1,k2,k3,k4,k5,k6⟩:=stepX_ok (pr:=pr) (aft:=o.aft) h hd hg hw (tagO_ok htg) hr
      have hs':=hs.up k4 k5
      refine ⟨0,g1,t',g1,ρ',_,k1,seen_ok k3 hs' k6.1 hk,k2,GhK.refl _,k3,fun p hp=> ?_⟩
      rcases List.mem_cons.mp hp with rfl | hp
      ·exact .inr ⟨some (([x],[]),true),by simp,k6.2⟩
      ·rcases hs' p hp with q | ⟨tg,q1,q2⟩
       ·exact .inl q
       ·exact .inr ⟨tg,by simp [q1],q2⟩
     ·cases hr
    ·split at hr
     ·rename_i X hap
      split at hr
      ·rename_i hk
       obtain ⟨g1,t',g2,ρ',k1,k2,kg,k3,k4,k4',k5,k6,k7⟩:=spX_ok (pr:=pr) (aft:=o.aft) h hg hw hap hr
       refine ⟨0,g1,t',g2,ρ',_,k1,?_,k2,kg,k3,fun p hp=> ?_⟩
       ·rw [List.all_eq_true]
        intro p hp
        rcases hs p hp with q | ⟨tg,q1,q2⟩
        ·rw [clash_nlK q];simp
        ·have:=List.all_eq_true.mp hk _ q1
         simp only [Bool.or_eq_true] at this
         rcases this with q | q
         ·rw [q];rfl
         ·cases tg with
          | none=>cases q
          | some x=>
           have:=clash_noQ h (TagR.toG q2) k6 q
           show (o.aft.contains p.1 || !clash p.2 (stepFp (runN pr 0) b ⟨o.dst,o.op,o.gu,o.aft,o.res⟩ g))=true
           rw [this];simp
       ·rcases List.mem_cons.mp hp with rfl | hp
        ·refine .inr ⟨X.ent,by simp,?_⟩
         cases hX:X.ent with
         | none=>trivial
         | some x=>exact k7 x hX
        ·rcases hs p hp with q | ⟨tg,q1,q2⟩
         ·exact .inl q
         ·refine .inr ⟨keepT X.mo X.tp tg,List.mem_cons_of_mem _ (List.mem_map.mpr ⟨_,q1,rfl⟩),?_⟩
          cases tg with
          | none=>trivial
          | some x=>
           obtain ⟨⟨wo',ro'⟩,m⟩:=x
           have mvr: ∀ {l:List Nat},disj l X.mo=true→ ∀o p y,o∈l→ρ o p=some y→ρ' o p=some y:=fun hd o p y ho hy=>k4 _ _ _ (by
            have:=List.all_eq_true.mp hd o ho
            simpa using this) hy
           cases hdj:disj (wo'++ro') X.mo with
           | true=>
            simp only [keepT,hdj]
            exact TagR.up q2 (mvr hdj) k5
           | false=>
            simp only [keepT,hdj]
            cases hm:m&&X.tp&&disj ro' X.mo with
            | false=>trivial
            | true=>
             simp only [Bool.and_eq_true] at hm
             obtain ⟨⟨rfl,e2⟩,e3⟩:=hm
             exact FinM.tp (mo:= []) q2 (fun o id _ e=>k4' e2 o id e) (mvr e3) k5
      ·cases hr
     ·split at hr
      ·rename_i e args hpl
       split at hr
       ·split at hr
        ·rename_i hk
         obtain ⟨n,g1,t',g2,ρ',k1,k2,kg,k3,k4,k5,k6,k7⟩:=callPC_ok (aft:=o.aft) h hpl hd hg hw hr
         refine ⟨n,g1,t',g2,ρ',_,k1,?_,k2,kg,k3,fun p hp=> ?_⟩
         ·rw [List.all_eq_true]
          intro p hp
          rcases hs p hp with q | ⟨tg,q1,q2⟩
          ·rw [clash_nlK q];simp
          ·have:=List.all_eq_true.mp hk _ q1
           simp only [Bool.or_eq_true] at this
           rcases this with q | q
           ·rw [q];rfl
           ·cases tg with
            | none=>cases q
            | some x=>
             have:=clash_noQ h (TagR.toG q2) k6 q
             show (o.aft.contains p.1 || !clash p.2 (stepFp (runN pr n) b ⟨o.dst,o.op,o.gu,o.aft,o.res⟩ g))=true
             rw [this];simp
         ·rcases List.mem_cons.mp hp with rfl | hp
          ·cases ho:ownOne e.rs with
           | true=>exact .inr ⟨some (([t.nx],[]),true),by simp,k7 ho⟩
           | false=>exact .inr ⟨none,by simp,trivial⟩
          ·rcases hs.up k4 k5 p hp with q | ⟨tg,q1,q2⟩
           ·exact .inl q
           ·exact .inr ⟨tg,List.mem_cons_of_mem _ q1,q2⟩
        ·cases hr
       ·split at hr
        ·rename_i hk
         obtain ⟨n,g1,k1,t',k2,g2,ρ2,k3,k4⟩:=stepT_ok (aft:=o.aft) h hg hw hr
         refine ⟨n,g1,t',g2,ρ2,_,k1,?_,k2,k3,k4,fun p hp=> ?_⟩
         ·rw [List.all_eq_true]
          intro p hp
          rcases hs p hp with q | ⟨tg,q1,q2⟩
          ·rw [clash_nlK q];simp
          ·have:=List.all_eq_true.mp hk _ q1
           rw [this];rfl
         ·rcases List.mem_cons.mp hp with rfl | hp
          ·exact .inr ⟨none,by simp,trivial⟩
          ·rcases hs p hp with q | ⟨tg,q1,q2⟩
           ·exact .inl q
           ·exact .inr ⟨none,List.mem_cons_of_mem _ (List.mem_map.mpr ⟨_,q1,rfl⟩),trivial⟩
        ·cases hr
      ·split at hr
       ·rename_i hk
        obtain ⟨n,g1,k1,t',k2,g2,ρ2,k3,k4⟩:=stepT_ok (aft:=o.aft) h hg hw hr
        refine ⟨n,g1,t',g2,ρ2,_,k1,?_,k2,k3,k4,fun p hp=> ?_⟩
        ·rw [List.all_eq_true]
         intro p hp
         rcases hs p hp with q | ⟨tg,q1,q2⟩
         ·rw [clash_nlK q];simp
         ·have:=List.all_eq_true.mp hk _ q1
          rw [this];rfl
        ·rcases List.mem_cons.mp hp with rfl | hp
         ·exact .inr ⟨none,by simp,trivial⟩
         ·rcases hs p hp with q | ⟨tg,q1,q2⟩
          ·exact .inl q
          ·exact .inr ⟨none,List.mem_cons_of_mem _ (List.mem_map.mpr ⟨_,q1,rfl⟩),trivial⟩
       ·cases hr
theorem dG_ok (h:RelR fr b N ρ t g) {Γ:List (Entry S pr)} {o:AOD} {i:Nat} {seen:SnK} {sn:List (Nat×Fp)} (hs:SnR ρ g.hp sn seen) {K:SnK→TS S→Option α} {r:α} (hr:dG Γ N o i seen t K=some r):Did pr fr b N o i sn g K r:=by
 unfold dG at hr
 split at hr
 ·rename_i e
  exact dOne_ok h (by rw [e];rfl) (by rw [e];rfl) hs hr
 ·rename_i gt gb e
  have skip: ∀ {t1:TS S},guardOk g.ts o.gu=true→wantedP g.ts o.gu=false→RelR fr b N ρ t1 g→dstK N o.dst=true→K seen (t1.putD o.dst .skip)=some r→Did pr fr b N o i sn g K r:=by
   intro t1 hg hw h1 hd hk
   have e1:stepO (runN pr 0) b o.er g=some ⟨putT g.ts o.dst .skip,g.hp⟩:=by
    unfold stepO
    simp only [AOD.er,hg,hw,if_true,Bool.false_eq_true,if_false]
   have e2:noFpK (stepFp (runN pr 0) b o.er g):=by
    unfold stepFp noFpK
    simp only [AOD.er,hw,Bool.false_eq_true,if_false]
   refine ⟨0,_,_,_,ρ,seen,e1,?_,hk,GhK.refl _,h1.putD hd (show VS ρ g.hp .skip .skip from rfl),fun p hp=> ?_⟩
   ·rw [List.all_eq_true]
    intro p hp
    rw [clash_nrK e2];simp
   ·rcases List.mem_cons.mp hp with rfl | hp
    ·exact .inl e2
    ·exact hs p hp
  split at hr
  ·rename_i hsl hd
   simp only [Bool.and_eq_true] at hd
   have ev:g.ts.getD gt .undef= .skip:=h.sl _ _ hsl
   exact skip (by rw [e];simp only [guardOk,ev]) (by rw [e];simp only [wantedP,ev]) h hd.1 hr
  ·rename_i m v hsl hd
   simp only [Bool.and_eq_true] at hd
   have hi:gt<N:=by simpa using hd.2
   have ev:g.ts.getD gt .undef= .bool v:=(show Cl g.hp m (.bool v) _ from (h.sl _ _ hsl).1).sc rfl
   have hput: ∀w:Bool,v=w→RelR fr b N ρ (t.put gt (boolV w)) g:=fun w hw=>by
    subst hw
    have:=h.put hi (boolV_ok (S:=S) (ρ:=ρ) (H:=g.hp) v)
    rw [put_same (by rw [h.len];exact hi) ev] at this
    exact this
   have hok:guardOk g.ts o.gu=true:=by rw [e];simp only [guardOk,ev]
   cases v with
   | true=>
    simp only [cond_true] at hr
    cases gb with
    | true=>exact dOne_ok (hput true rfl) hok (by rw [e];simp only [wantedP,ev];rfl) hs hr
    | false=>exact skip hok (by rw [e];simp only [wantedP,ev];rfl) (hput true rfl) hd.1 hr
   | false=>
    simp only [cond_false] at hr
    cases gb with
    | true=>exact skip hok (by rw [e];simp only [wantedP,ev];rfl) (hput false rfl) hd.1 hr
    | false=>exact dOne_ok (hput false rfl) hok (by rw [e];simp only [wantedP,ev];rfl) hs hr
  ·cases hr
theorem opsDT_ok {Γ:List (Entry S pr)}: ∀ {os:List AOD} {i:Nat} {seen:SnK} {sn:List (Nat×Fp)} {t:TS S} {g:St} {ρ:Rho} {K:TS S→Option α} {r:α},opsDT Γ N os i seen t K=some r→RelR fr b N ρ t g→SnR ρ g.hp sn seen →
  StepsD pr b (os.map AOD.er) i sn g (fun s'=> ∃t',K t'=some r∧Rel fr b N t' s')
 | [],i,seen,sn,t,g,ρ,K,r,hr,h,hs=>⟨0,g,rfl,t,hr,Rel.of h⟩
 | o::os,i,seen,sn,t,g,ρ,K,r,hr,h,hs=>by
  obtain ⟨n,g1,t',g2,ρ',seen',k1,k2,k3,k4,k5,k6⟩:=dG_ok h hs (show dG Γ N o i seen t (fun seen t=>opsDT Γ N os (i+1) seen t K)=some r from hr)
  refine StepsD.consK k1 k2 ?_
  obtain ⟨n',s',z1,g',z2,t2,z3,z4⟩:=StepsD.ghK k4 (opsDT_ok (os:=os) k3 k5 k6)
  exact ⟨n',s',z1,t2,z3,z4.gh z2⟩
end
end Go.Pi
namespace Go.Pi
set_option linter.unusedVariables false
def Round (pr:Prog) (c:PC) (Q:Ex→St→Prop):Ex→St→Prop
 | .normal,s=>Ends pr (.loop c) s Q
 | ex,s=>Q ex s
theorem Ends.round {pr:Prog} {c:PC} {s:St} {Q:Ex→St→Prop} (h:Ends pr c s (Round pr c Q)):Ends pr (.loop c) s Q:=by
 obtain ⟨n,ex,s1,h1,h2⟩:=h
 cases ex with
 | normal=>
  obtain ⟨k,ex,s2,h3,h4⟩:=h2
  have h3':loopN (code (runN pr k) k c) k s1=some (ex,s2):=h3
  refine ⟨max n (k+1),ex,s2,?_,h4⟩
  show loopN (code (runN pr (max n (k+1))) (max n (k+1)) c) (max n (k+1)) s=_
  obtain ⟨j,hj⟩: ∃j,max n (k+1)=j+1:=⟨max n (k+1)-1,by omega⟩
  have e1:=code_mono (runN_mono pr (Nat.le_max_left n (k+1))) (Nat.le_max_left n (k+1)) h1
  have hk:k≤max n (k+1):=by omega
  have e2:=loopN_mono (fun s r h=>code_mono (runN_mono pr hk) hk h) (show k≤j by omega) h3'
  rw [hj] at e1 e2 ⊢
  simp only [loopN,e1]
  exact e2
 | exit i=>exact ⟨n+1,_,s1,by
   show loopN (code (runN pr (n+1)) (n+1) c) (n+1) s=_
   simp only [loopN,code_mono (runN_mono pr (Nat.le_succ n)) (Nat.le_succ n) h1],h2⟩
 | ret=>exact ⟨n+1,_,s1,by
   show loopN (code (runN pr (n+1)) (n+1) c) (n+1) s=_
   simp only [loopN,code_mono (runN_mono pr (Nat.le_succ n)) (Nat.le_succ n) h1],h2⟩
inductive AC where
 | skip
 | ret
 | exit (j:Nat)
 | reg (k:Nat) (os:List AO)
 | regd (k:Nat) (os:List AOD)
 | seq (a c:AC)
 | cond (c:PX) (x y:AC)
 | block (j:Nat) (a:AC)
 | cut (xs:List (Ex×ShapeK)) (a:AC)
 | gh (os:List AO) (a:AC)
 | pg (os:List AO) (a:AC)
 | loop (h:ShapeK) (xs:List (Ex×ShapeK)) (a:AC)
def AC.er:AC→PC
 | .skip=> .skip
 | .ret=> .ret
 | .exit j=> .exit j
 | .reg k os=> .region false k (AO.er os)
 | .regd k os=> .region true k (os.map AOD.er)
 | .seq a c=> .seq a.er c.er
 | .cond c x y=> .cond c x.er y.er
 | .block j a=> .block j a.er
 | .cut _ a=>a.er
 | .gh _ a=>a.er
 | .pg _ a=>a.er
 | .loop _ _ a=> .loop a.er
def ghostO:AO→Bool
 | .fz _=>true
 | .fzA _ _=>true
 | .fzN _ _=>true
 | .fzB _ _=>true
 | .un _=>true
 | _=>false
def ghostL (os:List AO):Bool:=os.all ghostO
theorem ghostL_er: ∀ {os:List AO},ghostL os=true→AO.er os= []
 | [],_=>rfl
 | a::os,h=>by
  simp only [ghostL,List.all_cons,Bool.and_eq_true] at h
  have:=ghostL_er (os:=os) h.2
  cases a<;>first | exact this | (cases h.1)
def exB:Ex→Ex→Bool
 | .normal,.normal=>true
 | .exit i,.exit j=>Nat.beq i j
 | .ret,.ret=>true
 | _,_=>false
theorem exB_ok {x y:Ex} (h:exB x y=true):x=y:=by
 unfold exB at h
 split at h
 ·rfl
 ·rw [Nat.eq_of_beq_eq_true h]
 ·rfl
 ·cases h
section
variable {S:Nat→Type} [Sg:Sig S] {ρ ρ':Rho} {H H':Heap} {fr:Fr} {b N:Nat} {t:TS S} {s g:St} {pr:Prog}
def QT (S:Nat→Type):List (Ex×ShapeK)→Type
 | []=>Empty
 | [x]=>Flds S x.2.cs
 | x::y::xs=>Flds S x.2.cs ⊕ QT S (y::xs)
def closeX:(xs:List (Ex×ShapeK))→Ex→TS S→Option (QT S xs)
 | [],_,_=>none
 | [x],ex,t=>(match exB x.1 ex with
  | true=>closeSh x.2 t
  | false=>none)
 | x::y::xs,ex,t=>(match exB x.1 ex with
  | true=>(match closeSh x.2 t with
   | some p=>some (.inl p)
   | none=>none)
  | false=>(match closeX (y::xs) ex t with
   | some q=>some (.inr q)
   | none=>none))
def openX {α:Type}:(xs:List (Ex×ShapeK))→QT S xs→(Ex→TS S→Option α)→Option α
 | [],q,_=>nomatch q
 | [x],q,K=>K x.1 (openSh x.2 q)
 | x::y::xs,q,K=>(match q with
  | .inl p=>K x.1 (openSh x.2 p)
  | .inr q=>openX (y::xs) q K)
theorem closeX_ok {α:Type} (h:RelR fr b N ρ t g): ∀ {xs:List (Ex×ShapeK)} {ex:Ex} {q:QT S xs} {K:Ex→TS S→Option α} {r:α},closeX xs ex t=some q→openX xs q K=some r→ ∃t' ρ',K ex t'=some r∧RelR fr b N ρ' t' g∧t'.av= []
 | [],_,q,_,_,_,_=>nomatch q
 | [x],ex,q,K,r,h1,h2=>by
  simp only [closeX] at h1
  split at h1
  ·rename_i hx
   obtain rfl:=exB_ok hx
   obtain ⟨ρ',k⟩:=h.closeSh h1
   exact ⟨_,ρ',h2,k,rfl⟩
  ·cases h1
 | x::y::xs,ex,q,K,r,h1,h2=>by
  simp only [closeX] at h1
  split at h1
  ·rename_i hx
   obtain rfl:=exB_ok hx
   split at h1
   ·rename_i p hp
    cases h1
    obtain ⟨ρ',k⟩:=h.closeSh hp
    exact ⟨_,ρ',h2,k,rfl⟩
   ·cases h1
  ·split at h1
   ·rename_i q' hq
    cases h1
    exact closeX_ok h hq h2
   ·cases h1
def run (Γ:List (Entry S pr)) (N k:Nat):AC→ {α:Type}→TS S→(Ex→TS S→Option α)→Option α
 | .skip,_,t,K=>K .normal t
 | .ret,_,t,K=>K .ret t
 | .exit j,_,t,K=>K (.exit j) t
 | .reg n os,_,t,K=>opsT Γ N os { t with av:=List.range n } fun t=>K .normal { t with av:= [] }
 | .regd n os,_,t,K=>opsDT Γ N os 0 [] { t with av:=List.range n } fun t=>K .normal { t with av:= [] }
 | .seq a c,_,t,K=>run Γ N k a t fun ex t=>match ex with
  | .normal=>run Γ N k c t K
  | ex=>K ex t
 | .cond c x y,_,t,K=>(match scE t c with
  | some (.bool v)=>cond v (run Γ N k x t K) (run Γ N k y t K)
  | _=>none)
 | .block j a,_,t,K=>run Γ N k a t fun ex t=>match ex with
  | .exit i=>(match Nat.beq i j with
   | true=>K .normal t
   | false=>K (.exit i) t)
  | ex=>K ex t
 | .cut xs a,_,t,K=>(run Γ N k a t fun ex t=>closeX xs ex t).bind fun q=>openX xs q K
 | .pg os a,_,t,K=>(match ghostL os with
  | true=>opsT Γ N os t fun t=>run Γ N k a t K
  | false=>none)
 | .gh os a,_,t,K=>run Γ N k a t fun ex t=>match ex with
  | .normal=>(match ghostL os with
   | true=>opsT Γ N os t fun t=>K .normal t
   | false=>none)
  | ex=>K ex t
 | .loop h xs a,_,t,K=>(match closeSh h t with
  | some p=>(iter k (fun p=>run Γ N k a (openSh h p) fun ex t=>match ex with
    | .normal=>(match closeSh h t with
     | some p=>some (.inl p)
     | none=>none)
    | ex=>(match closeX xs ex t with
     | some q=>some (.inr q)
     | none=>none)) p).bind fun q=>openX xs q K
  | none=>none)
theorem HLe_append (H L:Heap):HLe H (H++L):=fun id sz es h=>by
 have:=hat_ltK (H:=H) (id:=id) (by rw [h];intro e;cases e)
 unfold hat at h ⊢
 rw [List.getD_eq_getElem?_getD] at h ⊢
 rw [List.getElem?_append_left this]
 exact h
theorem hat_append {H L:Heap} {id:Nat} (h:id<H.length):hat (H++L) id=hat H id:=by
 unfold hat
 rw [List.getD_eq_getElem?_getD,List.getD_eq_getElem?_getD,List.getElem?_append_left h]
theorem RelR.free (h:RelR fr b N ρ t g) (k:Nat):RelR fr g.hp.length N ρ { t with av:=List.range k } ⟨g.ts,g.hp++List.replicate k .fresh⟩:=by
 have hlt: ∀ {id sz es},hat g.hp id= .row sz es true→id<g.hp.length:=fun e=>hat_ltK (by rw [e];intro q;cases q)
 have hx:Ext ρ g.hp ρ (g.hp++List.replicate k .fresh):=⟨HLe_append _ _,fun _ _ _ h=>h,fun _ _ _ _ es _ e=>⟨es,by rw [hat_append (hlt e)];exact e,rfl⟩⟩
 refine ⟨h.len,fun i v hv=>(h.sl i v hv).ext hx,fun o ob ho=>ObjR.ext hx (fun p id hp=> ?_) (h.hp _ _ ho),h.inj,fun o p id hp=> ?_,h.nxt,fun id k hk=> ?_,List.nodup_range,fun r hr=> ?_⟩
 ·obtain ⟨_,_,_,e⟩:=h.liv _ _ _ hp
  exact hat_append (hlt e)
 ·obtain ⟨k1,sz,es,e⟩:=h.liv _ _ _ hp
  exact ⟨k1,sz,es,by rw [hat_append (hlt e)];exact e⟩
 ·obtain ⟨h1,h2⟩:=h.frm id k hk
  exact ⟨by rw [hat_append h2];exact h1,by simp;omega⟩
 ·have hr:r<k:=by simpa using hr
  refine ⟨?_,by simp;exact hr,?_⟩
  ·unfold hat
   rw [List.getD_eq_getElem?_getD,List.getElem?_append_right (by omega)]
   simp [hr]
  ·cases e:fr (g.hp.length+r) with
   | none=>rfl
   | some x=>exact absurd (h.frm _ _ e).2 (by omega)
theorem RelR.done (h:RelR fr b N ρ t g) (b':Nat):RelR fr b' N ρ { t with av:= [] } g:=⟨h.len,h.sl,h.hp,h.inj,h.liv,h.nxt,h.frm,List.nodup_nil,fun r hr=>nomatch hr⟩
def Fin {α:Type} (fr:Fr) (N:Nat) (K:Ex→TS S→Option α) (r:α) (ex:Ex) (s:St):Prop:= ∃t',K ex t'=some r∧Rel fr 0 N t' s
theorem Fin.lift {α:Type} {c:PC} {K:Ex→TS S→Option α} {r:α} (hg:GhK s g) (h:Ends pr c g (Fin fr N K r)):Ends pr c s (Fin fr N K r):=
 (h.gh hg).mono fun ex s' ⟨g',q1,t',q2,q3⟩=>⟨t',q2,q3.gh q1⟩
theorem run_ok {Γ:List (Entry S pr)} {k:Nat}: ∀(c:AC) {α:Type} {t:TS S} {g:St} {ρ:Rho} {K:Ex→TS S→Option α} {r:α},run Γ N k c t K=some r→RelR fr 0 N ρ t g→Ends pr c.er g (Fin fr N K r)
 | .skip,_,t,g,ρ,K,r,hr,h=>Ends.skip ⟨t,hr,Rel.of h⟩
 | .ret,_,t,g,ρ,K,r,hr,h=>Ends.ret ⟨t,hr,Rel.of h⟩
 | .exit j,_,t,g,ρ,K,r,hr,h=>Ends.exit ⟨t,hr,Rel.of h⟩
 | .reg n os,_,t,g,ρ,K,r,hr,h=>by
  refine Ends.region ?_
  refine Steps.mono (opsT_ok hr (h.free n)) ?_
  rintro s' ⟨t',k1,g',ρ',k2,k3⟩
  exact ⟨_,k1,g',ρ',k2,k3.done 0⟩
 | .regd n os,_,t,g,ρ,K,r,hr,h=>by
  refine Ends.regionD ?_
  obtain ⟨m,s',k0,t',k1,g',ρ',k2,k3⟩:=opsDT_ok (sn:= []) hr (h.free n) (fun p hp=>nomatch hp)
  exact ⟨m,s',k0,_,k1,g',ρ',k2,k3.done 0⟩
 | .seq a c,_,t,g,ρ,K,r,hr,h=>by
  refine Ends.seq ((run_ok a hr h).mono ?_)
  rintro ex s' ⟨t',k1,g',ρ',k2,k3⟩
  cases ex with
  | normal=>exact Fin.lift k2 (run_ok c k1 k3)
  | exit j=>exact ⟨t',k1,g',ρ',k2,k3⟩
  | ret=>exact ⟨t',k1,g',ρ',k2,k3⟩
 | .cond c x y,_,t,g,ρ,K,r,hr,h=>by
  simp only [run] at hr
  split at hr
  ·rename_i v hv
   refine Ends.cond (h.sc hv) (fun e=> ?_) (fun e=> ?_)
   ·subst e;exact run_ok x hr h
   ·subst e;exact run_ok y hr h
  ·cases hr
 | .block j a,_,t,g,ρ,K,r,hr,h=>by
  refine Ends.block ((run_ok a hr h).mono ?_)
  rintro ex s' ⟨t',k1,k2⟩
  cases ex with
  | normal=>exact ⟨t',k1,k2⟩
  | ret=>exact ⟨t',k1,k2⟩
  | exit i=>
   simp only at k1
   simp only [Blocked]
   split at k1
   ·rename_i e
    rw [if_pos (Nat.eq_of_beq_eq_true e)]
    exact ⟨t',k1,k2⟩
   ·rename_i e
    rw [if_neg (beq_ne e)]
    exact ⟨t',k1,k2⟩
 | .cut xs a,_,t,g,ρ,K,r,hr,h=>by
  simp only [run,Option.bind_eq_some_iff] at hr
  obtain ⟨q,h1,h2⟩:=hr
  refine (run_ok a h1 h).mono ?_
  rintro ex s' ⟨t',k1,g',ρ',k2,k3⟩
  obtain ⟨t2,ρ2,k4,k5,_⟩:=closeX_ok k3 k1 h2
  exact ⟨t2,k4,g',ρ2,k2,k5⟩
 | .pg os a,_,t,g,ρ,K,r,hr,h=>by
  simp only [run] at hr
  split at hr
  ·rename_i hg
   have:=opsT_ok hr h
   rw [ghostL_er hg] at this
   obtain ⟨n,s2,e1,t2,e2,g2,ρ2,e3,e4⟩:=this
   cases e1
   exact Fin.lift e3 (run_ok a e2 e4)
  ·cases hr
 | .gh os a,_,t,g,ρ,K,r,hr,h=>by
  refine (run_ok a hr h).mono ?_
  rintro ex s' ⟨t',k1,g',ρ',k2,k3⟩
  cases ex with
  | normal=>
   simp only at k1
   split at k1
   ·rename_i hg
    have:=opsT_ok k1 k3
    rw [ghostL_er hg] at this
    obtain ⟨n,s2,e1,t2,e2,e3⟩:=this
    cases e1
    exact ⟨t2,e2,e3.gh k2⟩
   ·cases k1
  | exit j=>exact ⟨t',k1,g',ρ',k2,k3⟩
  | ret=>exact ⟨t',k1,g',ρ',k2,k3⟩
 | .loop hd xs a,_,t,g,ρ,K,r,hr,h=>by
  simp only [run] at hr
  split at hr
  ·rename_i p hp
   simp only [Option.bind_eq_some_iff] at hr
   obtain ⟨q,h1,h2⟩:=hr
   obtain ⟨ρ1,h3⟩:=h.closeSh hp
   clear hp h
   have key: ∀(n:Nat) (p:Flds S hd.cs) (g:St) (ρ1:Rho),iter n (fun p=>run Γ N k a (openSh hd p) fun ex t=>match ex with
     | .normal=>(match closeSh hd t with
      | some p=>some (.inl p)
      | none=>none)
     | ex=>(match closeX xs ex t with
      | some q=>some (.inr q)
      | none=>none)) p=some q→RelR fr 0 N ρ1 (openSh hd p) g→Ends pr (.loop a.er) g (Fin fr N K r):=by
    intro n
    induction n with
    | zero=>intro p g ρ1 h1;cases h1
    | succ n ih=>
     intro p g ρ1 h1 h3
     simp only [iter,Option.bind_eq_some_iff] at h1
     obtain ⟨v,hv,h1⟩:=h1
     refine Ends.round ((run_ok a hv h3).mono ?_)
     rintro ex s' ⟨t',k1,g',ρ',k2,k3⟩
     have out: ∀ {ex:Ex},(match closeX xs ex t' with
       | some q=>some (Sum.inr q)
       | none=>none:Option (Flds S hd.cs ⊕ QT S xs))=some v→Fin fr N K r ex s':=by
      intro ex k1
      split at k1
      ·rename_i q' hq
       cases k1
       cases h1
       obtain ⟨t2,ρ2,k4,k5,_⟩:=closeX_ok k3 hq h2
       exact ⟨t2,k4,g',ρ2,k2,k5⟩
      ·cases k1
     cases ex with
     | normal=>
      simp only at k1
      split at k1
      ·rename_i p' hp'
       cases k1
       obtain ⟨ρ2,k4⟩:=k3.closeSh hp'
       exact Fin.lift k2 (ih p' g' ρ2 h1 k4)
      ·cases k1
     | exit j=>exact out k1
     | ret=>exact out k1
   exact key k p g ρ1 h1 h3
  ·cases hr
end
end Go.Pi
namespace Go.Pi
set_option linter.unusedVariables false
section
variable {S:Nat→Type} [Sg:Sig S] {ρ ρ':Rho} {H H':Heap} {fr:Fr} {b N:Nat} {t:TS S} {s g:St} {pr:Prog}
def resT (t:TS S):PR→Option (Bool×List (Val S))
 | .tmp i=>(match look t.sl i with
  | some v=>slotV v
  | none=>none)
 | .cell ag n a=>(match look t.sl a with
  | some (.ptr o p i j)=>(match p,Nat.beq i 0&&Nat.beq j 0,look t.hp o with
   | [],true,some (.box pn vs)=>(match Nat.beq (widths vs) n,ag,vs with
    | true,true,vs=>some (true,vs)
    | true,false,[v]=>(match slotV v with
     | some (false,[w])=>some (false,[w])
     | _=>none)
    | _,_,_=>none)
   | _,_,_=>none)
  | _=>none)
theorem resT_ok (h:RelR fr b N ρ t g) {r:PR} {f:Bool} {vs:List (Val S)} (hr:resT t r=some (f,vs)): ∃d ds,res1 g r=some d∧VCs ρ g.hp vs ds∧(f=true→d= .agg ds)∧(f=false→ds= [d]):=by
 cases r with
 | tmp i=>
  simp only [resT] at hr
  split at hr
  ·rename_i v hv
   obtain ⟨ds,k1,k2⟩:=slotV_ok hr (h.sl _ _ hv)
   exact ⟨_,ds,rfl,k1,k2⟩
  ·cases hr
 | cell ag n a=>
  simp only [resT] at hr
  split at hr
  ·rename_i o p i j ha
   split at hr
   ·rename_i ws hij ho
    simp only [Bool.and_eq_true] at hij
    obtain rfl:=Nat.eq_of_beq_eq_true hij.1
    obtain rfl:=Nat.eq_of_beq_eq_true hij.2
    obtain ⟨id,sz,es,c1,c2,c3,c4⟩:=h.sl _ _ ha
    obtain ⟨id',ds,k1,k2,k3,k9⟩:=h.hp _ _ ho
    rw [c1] at k1;cases k1
    rw [c2] at k2;cases k2
    rw [Nat.zero_mul,Nat.zero_add] at c4
    split at hr
    ·rename_i hn
     cases hr
     have hl:ds.length=n:=beq_wid hn k3
     refine ⟨.agg ds,ds,?_,k3,fun _=>rfl,fun e=>nomatch e⟩
     simp only [res1,c4,c2,hl,if_true,shaped]
    ·rename_i v hn
     have hl:ds.length=n:=beq_wid hn k3
     split at hr
     ·rename_i w hw
      cases hr
      obtain ⟨a',b',rfl,q1,q2⟩:=k3
      have q2:b'= []:=q2
      subst q2
      have hv: ∃d,a'= [d]∧VS ρ g.hp v d:=by
       cases v with
       | one m c x=>
        simp only [slotV,Option.some.injEq,Prod.mk.injEq] at hw
        have hlen:a'.length=1:=by
         rw [q1.len]
         cases c<;>first | rfl | (exact absurd hw.1 (by simp [isAgg]))
        match a',hlen with
        | [d],_=>
         refine ⟨d,rfl,?_⟩
         simp only [VS,VSx,hw.1]
         exact q1
       | agg _=>obtain ⟨_,_,q⟩:=q1;exact q.elim
       | tup _=>obtain ⟨_,_,q⟩:=q1;exact q.elim
       | _=>obtain ⟨d,rfl,q⟩:=q1;exact ⟨d,rfl,q⟩
      obtain ⟨d,rfl,hv⟩:=hv
      obtain ⟨ds',z1,z2,z3⟩:=slotV_ok hw hv
      have z3:=z3 rfl
      subst z3
      refine ⟨d,[d],?_,z1,(fun e=>nomatch e),fun _=>rfl⟩
      simp only [res1,c4,c2]
      rw [if_pos (by simpa using hl)]
      rfl
     ·cases hr
    ·cases hr
   ·cases hr
  ·cases hr
def hand1 (t:TS S):RK→PR→List Nat
 | .own _,r=>(match resT t r with
  | some (false,[.whole o _])=> [o]
  | _=> [])
 | _,_=> []
def hands (t:TS S):List RK→List PR→List Nat
 | k::ks,r::rs=>hand1 t k r++hands t ks rs
 | _,_=> []
def inP (os:List Nat):Nat→List Nat→Bool:=fun q _=>os.contains q
def finV (t':TS S) (c:Code) (r:PR):Option (T S c):=match resT t' r with
 | some (f,vs)=>(match beqB f (isAgg c)&&(isAgg c || scC (S:=S) 9 c) with
  | true=>mkT (gA t') fuelT c vs
  | false=>none)
 | none=>none
def finO (t:TS S) (c:Code) (r:PR):Option (List (T S c)):=match resT t r with
 | some (false,[.whole o p])=>(match p,look t.hp o with
  | [],some (.row n e l)=>(match Nat.ble (n+dp e+1) 11 with
   | true=>convL e c l
   | false=>none)
  | _,_=>none)
 | some (false,[.nil])=>some []
 | _=>none
def finC (t:TS S) (c:Code) (r:PR):Option (List (T S c)):=match resT t r with
 | some (false,[v])=>(match scC (S:=S) 9 c with
  | true=>gC 11 v (.list c)
  | false=>none)
 | _=>none
def finP (t':TS S) (c:Code) (r:PR):Option (T S c):=match resT t' r with
 | some (false,[.fp n c' v j])=>(match Nat.beq j 0&&Nat.ble n 11 with
  | true=>conv c' c v
  | false=>none)
 | some (false,[.ptr o p i j])=>(match p,Nat.beq i 0&&Nat.beq j 0,look t'.hp o with
  | [],true,some (.box pn vs)=>mkT (gA t') fuelT c vs
  | _,_,_=>none)
 | _=>none
def finR (t t':TS S):(ks:List RK)→List PR→Option (Flds S (rcs ks))
 | [],[]=>some ()
 | .val c::ks,r::rs=>(match finV t' c r,finR t t' ks rs with
  | some x,some p=>some (x,p)
  | _,_=>none)
 | .own c::ks,r::rs=>(match finO t c r,finR t t' ks rs with
  | some x,some p=>some (x,p)
  | _,_=>none)
 | .cl c::ks,r::rs=>(match finC t c r,finR t t' ks rs with
  | some x,some p=>some (x,p)
  | _,_=>none)
 | .fp c::ks,r::rs=>(match finP t' c r,finR t t' ks rs with
  | some x,some p=>some (x,p)
  | _,_=>none)
 | _,_=>none
def isCl:RK→Bool
 | .cl _=>true
 | _=>false
def plR:RK→Bool
 | .val c=>scC (S:=S) 9 c
 | .cl c=>true
 | _=>false
def okR (ks:List RK):Bool:=match ks.filter isCl with
 | []=>true
 | [_]=>ks.all (plR (S:=S))
 | _=>false
def nodupB:List Nat→Bool
 | []=>true
 | x::xs => !xs.contains x&&nodupB xs
def finT (x:List Nat) (ks:List RK) (rs:List PR) (t:TS S):Option (Flds S (rcs ks)):=match nodupB (hands t ks rs)&&okR (S:=S) ks with
 | true=>finR t (t.clear (inP (x++hands t ks rs))) ks rs
 | false=>none
theorem exp1_frz {d:D} (hd: ∀id off len,d ≠ .ref id off len):exp1 H d=((frz fuelF d).run H).map fun x=>(x.1,[],x.2):=by
 cases d<;>first | rfl | exact absurd rfl (hd _ _ _)
theorem finV_ok (h:RelR fr b N ρ t g) (hg:GhK s g) {c:Code} {r:PR} {x:T S c} (hx:finV t c r=some x) :
  ∃d y rd,res1 g r=some d∧exp1 s.hp d=some (y,[],rd)∧VS noRho [] (.one 1 c x) y∧(∀i∈rd,dead g.hp i∨Own ρ i)∧tupD d=false∧(scC (S:=S) 9 c=true→rd= []):=by
 unfold finV at hx
 split at hx
 ·rename_i f vs hr
  split at hx
  ·rename_i hf
   simp only [Bool.and_eq_true,Bool.or_eq_true] at hf
   obtain ⟨hf,hf2⟩:=hf
   obtain rfl:=beqB_eq hf
   obtain ⟨d,ds,k1,k2,k3,k4⟩:=resT_ok h hr
   have k5:=mkT_ok (R:=FzR (Own ρ) g.hp) (fun k z=>FzR.int k z) (fun v c x ds hg k=>gA_ok h hg k) hx k2
   have scd:scC (S:=S) 9 c=true→ds=en c x:=fun hsc=>by
    have: ∀ {cs ds:List D},(∀d∈cs,sc d=true∧scal d=true)→All2 (FzR (Own ρ) g.hp) cs ds→ds=cs:=by
     intro cs
     induction cs with
     | nil=>intro ds _ k;cases ds with
      | nil=>rfl
      | cons _ _=>exact k.elim
     | cons c cs ih=>
      intro ds hs k
      cases ds with
      | nil=>exact k.elim
      | cons d ds=>
       obtain ⟨⟨z,z1,z2,z3⟩,k⟩:=k
       have e:=z2.sc (hs c (by simp)).1
       have hc:=(hs c (by simp)).1
       rw [ih (fun d hd=>hs d (by simp [hd])) k]
       congr 1
       cases d<;>simp only [frz,Eff.run] at z1<;>first
        | (cases z1;exact e)
        | (split at z1<;>first
         | (split at z1<;>first | (simp only [run_bindE,Option.bind_eq_some_iff] at z1;obtain ⟨_,_,z1⟩:=z1;cases z1;simp only at e;rw [← e] at hc;cases hc) | cases z1)
         | cases z1)
        | (simp only [run_bindE,Option.bind_eq_some_iff] at z1;obtain ⟨_,_,z1⟩:=z1;cases z1;simp only at e;rw [← e] at hc;cases hc)
        | cases z1
    exact this (scC_ok hsc) k5
   cases hc:isAgg c with
   | true=>
    obtain ⟨z,q1,q2,q3⟩:=FzR.each k5
    have e:=k3 hc
    subst e
    refine ⟨.agg ds,.agg z.1,z.2,k1,?_,?_,q3,rfl,fun hsc=> ?_⟩
    ·rw [exp1_frz (fun _ _ _ e=>D.noConfusion e)]
     have:(frz fuelF (.agg ds)).run g.hp=some (.agg z.1,z.2):=by simp only [fuelF,frz,run_bindE,q1,Option.bind_some,Eff.run]
     rw [(eff_gh hg.hp this).1];rfl
    ·simp only [VS,VSx,hc]
     exact ⟨_,rfl,nrs_cl q2⟩
    ·have:=scd hsc
     subst this
     have: ∀ {cs:List D},(∀d∈cs,sc d=true∧scal d=true)→(eachC (frz 11) cs).run g.hp=some (cs,[]):=by
      intro cs
      induction cs with
      | nil=>intro _;rfl
      | cons a cs ih=>
       intro hs
       have ha:(frz 11 a).run g.hp=some (a,[]):=by
        have:=(hs a (by simp)).1
        cases a<;>first | rfl | cases this
       simp [eachC,run_bindE,ha,ih (fun d hd=>hs d (by simp [hd])),Eff.run]
     rw [this (scC_ok hsc)] at q1
     cases q1;rfl
   | false=>
    have e:=k4 hc
    subst e
    rw [hc,Bool.false_eq_true,false_or] at hf2
    have e:=scd hf2
    have hd:sc d=true∧scal d=true:=scC_ok hf2 d (by rw [← e];simp)
    have hfz: ∀G:Heap,(frz fuelF d).run G=some (d,[]):=fun G=>by
     have:=hd.1
     cases d<;>first | rfl | cases this
    refine ⟨d,d,[],k1,?_,?_,by simp,?_,fun _=>rfl⟩
    ·rw [exp1_frz (fun _ _ _ e=>by subst e;cases hd.1),hfz];rfl
    ·simp only [VS,VSx,hc]
     rw [← e]
     exact ⟨Cl.plain (by have:=hd.1;cases d<;>first | rfl | cases this) (Nr.rfl' d),trivial⟩
    ·have:=hd.1
     cases d<;>first | rfl | cases this
  ·cases hx
 ·cases hx
theorem own_els {n:Nat} {e:Code} {q:List Nat→Option (Option Nat)} {l:List (T S e)} {m:Nat} (h:RowR H n e q l) (hm:n+dp e≤m) {id:Nat} {es:List (List D)} (h1:q []=some (some id)) (h2:hat H id= .row (W (S:=S) e) es true) :
  ∃z,(eachE (frz m) es).run H=some z∧All2 (All2 Nr) (l.map (en e)) z.1∧ ∀i∈z.2,dead H i ∨ ∃p,q p=some (some i)∧p ≠ []:=by
 cases ho:isOwn e with
 | false=>
  rcases h.els ho with ⟨c1,_⟩ | ⟨id',es',c1,c2,c3⟩
  ·rw [h1] at c1;cases c1
  ·rw [h1] at c1;cases c1
   rw [h2] at c2;cases c2
   obtain ⟨z,z1,z2,z3⟩:=eachE_els (m:=m) (H:=H) (P:=fun i=> ∃p,q p=some (some i)∧p ≠ []) (f:=frz m) (vs:=l.map (en e)) (ds:=es) (All2.of (by rw [List.length_map];exact c3.1.symm) fun i a d ha hd=>by
    rw [List.getElem?_map,Option.map_eq_some_iff] at ha
    obtain ⟨v,hv,rfl⟩:=ha
    obtain ⟨d',e1,e2⟩:=c3.2 i v hv
    rw [hd] at e1;cases e1
    exact cls_each (by omega) e2)
   exact ⟨z,z1,z2,z3⟩
 | true=>
  cases e with
  | own e=>
   rcases RowB.elts h with ⟨c1,_⟩ | ⟨id',es',c1,c2,c3,c4⟩
   ·rw [h1] at c1;cases c1
   ·rw [h1] at c1;cases c1
    have h2':hat H id= .row 1 es true:=h2
    rw [h2'] at c2;cases c2
    obtain ⟨z,z1,z2,z3⟩:=eachE_els (m:=m) (H:=H) (P:=fun i=> ∃p,q p=some (some i)∧p ≠ []) (f:=frz m) (vs:=l.map (en (.own e))) (ds:=es) (All2.of (by rw [List.length_map];exact c3.symm) fun i a d ha hd=>by
     rw [List.getElem?_map,Option.map_eq_some_iff] at ha
     obtain ⟨v,hv,rfl⟩:=ha
     obtain ⟨ds,e1,y,e2,rfl,e4⟩:=c4 i v hv
     rw [hd] at e1;cases e1
     obtain ⟨m',rfl⟩: ∃m',m=m'+1:=by
      simp only [dp] at hm
      exact ⟨m-1,by omega⟩
     have hrec:=row_fz (m:=m') e4 (by simp only [dp] at hm;omega)
     rcases e4.top with ⟨t1,t2⟩ | ⟨id2,es2,t1,t2,t3⟩
     ·have t1:q [i]=some none:=t1
      rw [e2] at t1;cases t1
      refine ⟨([.nil],[]),rfl,⟨?_,trivial⟩,by simp⟩
      have:v= []:=t2
      subst this
      exact Nr.mk_nil
     ·have t1':q [i]=some (some id2):=t1
      rw [e2] at t1';cases t1'
      obtain ⟨z,k1,k2,k3⟩:=hrec id2 es2 t1 t2 0 (List.length v) (by rw [t3];simp)
      refine ⟨([z.1],z.2),by simp [eachC,run_bindE,refD,k1,Eff.run],⟨?_,trivial⟩,fun j hj=>(k3 j hj).elim .inl fun ⟨p,hp⟩=> .inr ⟨i::p,hp,by simp⟩⟩
      have e5:((v:List (T S e)).drop 0).take (List.length v)=v:=by rw [List.drop_zero,List.take_of_length_le (Nat.le_refl _)]
      rw [e5] at k2
      exact k2)
    exact ⟨z,z1,z2,z3⟩
  | _=>cases ho
structure Xp (s g:St) (ρ:Rho) (os:List Nat) (hd:List Nat) (k:RK) (d y:D) (h rd:List Nat):Prop where
 e:exp1 s.hp d=some (y,h,rd)
 tp:tupD d=false
 no:isCl k=false→(∀id∈h, ∃o∈hd,ρ o []=some (some id))∧nodup h=true∧ ∀i∈rd,dead g.hp i ∨ ∃o p,ρ o p=some (some i)∧(os.contains o=false∨p ≠ [])
 pl:plR (S:=S) k=true→isCl k=false→h= []∧rd= []
 cl:isCl k=true→nodup h=true∧(h= []∨rd= [])∧(∀id∈h,dead g.hp id)∧ ∀i∈rd,dead g.hp i
theorem finO_ok (h:RelR fr b N ρ t g) (hg:GhK s g) {os:List Nat} {c:Code} {r:PR} {l:List (T S c)} (hx:finO t c r=some l) :
  ∃d y hd rd,res1 g r=some d∧Xp (S:=S) s g ρ os (hand1 t (.own c) r) (.own c) d y hd rd∧OwnX c l y:=by
 unfold finO at hx
 split at hx
 ·rename_i o p hr
  split at hx
  ·rename_i n e m ho
   split at hx
   ·rename_i hn
    have hn:n+dp e≤10:=by have:=Nat.le_of_ble_eq_true hn;omega
    obtain ⟨d,ds,k1,k2,k3,k4⟩:=resT_ok h hr
    have k4:=k4 rfl
    subst k4
    obtain ⟨w1,w2,w3⟩:=convL_ok hx
    have hv:VR1 (S:=S) ρ g.hp (.whole o []) d:=by
     obtain ⟨a,b',e1,e2,e3⟩:=k2
     obtain ⟨d',rfl,q⟩:=e2
     cases e1
     exact q
    have hrow:=h.hp _ _ ho
    have hh:hand1 t (.own c) r= [o]:=by simp only [hand1,hr]
    rw [hh]
    rcases hv with ⟨id,sz,es,c1,c2,rfl⟩ | ⟨c1,rfl⟩
    ·have hsz:sz=W (S:=S) e:=by
      rcases RowR.top (S:=S) hrow with ⟨t1,_⟩ | ⟨id2,es2,t1,t2,_⟩
      ·rw [c1] at t1;cases t1
      ·rw [c1] at t1;cases t1
       rw [c2] at t2;cases t2;rfl
     subst hsz
     obtain ⟨z,z1,z2,z3⟩:=own_els (S:=S) hrow (m:=10) hn c1 c2
     have z1':=eachE_up (by decide:10≤fuelF) z1
     have c2s:hat s.hp id= .row (W (S:=S) e) es true:=by
      rcases hg.hp.2 id with q | ⟨_,_,_,q⟩ | ⟨_,_,_,_,q⟩
      ·rw [← q];exact c2
      ·rw [c2] at q;cases q
      ·rw [c2] at q;cases q
     refine ⟨_,.own (W (S:=S) e) z.1,[id],z.2,k1,⟨?_,rfl,fun _=>⟨fun i hi=> ?_,rfl,fun i hi=> ?_⟩,fun hp=>(by cases hp),fun hp=>(by cases hp)⟩,.inr ⟨z.1,by rw [w1],?_⟩⟩
     ·simp only [exp1,c2s]
      rw [if_pos ⟨trivial,trivial⟩,(eff_gh hg.hp z1').1];rfl
     ·simp only [List.mem_singleton] at hi
      subst hi
      exact ⟨o,by simp,c1⟩
     ·exact (z3 i hi).elim .inl fun ⟨p,q1,q2⟩=> .inr ⟨o,p,q1,.inr q2⟩
     ·rw [← w2] at z2
      exact ⟨by have:=z2.len;simpa using this.symm,fun i v hv=>by
       obtain ⟨d,q1,q2⟩:=get_all2 z2 hv
       exact ⟨d,q1,nrs_cl q2⟩⟩
    ·refine ⟨_,.nil,[],[],k1,⟨rfl,rfl,fun _=>⟨by simp,rfl,by simp⟩,fun hp=>(by cases hp),fun hp=>(by cases hp)⟩,.inl ⟨rfl,?_⟩⟩
     rcases RowR.top (S:=S) hrow with ⟨_,t1⟩ | ⟨id2,es2,t1,_,_⟩
     ·have t1:m= []:=t1
      subst t1
      simpa using w3
     ·rw [c1] at t1;cases t1
   ·cases hx
  ·cases hx
 ·rename_i hr
  cases hx
  obtain ⟨d,ds,k1,k2,k3,k4⟩:=resT_ok h hr
  have k4:=k4 rfl
  subst k4
  obtain ⟨a,b',e1,⟨d',rfl,q⟩,e3⟩:=k2
  cases e1
  obtain rfl:d= .nil:=q
  exact ⟨_,.nil,[],[],k1,⟨rfl,rfl,fun _=>⟨by simp,rfl,by simp⟩,fun hp=>(by cases hp),fun hp=>(by cases hp)⟩,.inl ⟨rfl,rfl⟩⟩
 ·cases hx
theorem VCs.one1 {v:Val S} {d:D} (h:VCs ρ H [v] [d]):VC ρ H v [d]:=by
 obtain ⟨a,b',e1,e2,e3⟩:=h
 have e3:b'= []:=e3
 rw [e3,List.append_nil] at e1
 rw [e1]
 exact e2
theorem cls_sc {n:Nat}: ∀ {cs ds:List D},(∀d∈cs,sc d=true∧scal d=true)→All2 (Cl H n) cs ds→ds=cs
 | [],[],_,_=>rfl
 | c::cs,d::ds,hs,h=>by
  rw [h.1.sc (hs c (by simp)).1,cls_sc (fun d hd=>hs d (by simp [hd])) h.2]
 | [],_::_,_,h | _::_,[],_,h=>h.elim
theorem eachC_sc {G:Heap} {n:Nat}: ∀ {cs:List D},(∀d∈cs,sc d=true∧scal d=true)→(eachC (frz (n+1)) cs).run G=some (cs,[])
 | [],_=>rfl
 | a::cs,hs=>by
  have ha:(frz (n+1) a).run G=some (a,[]):=by
   have:=(hs a (by simp)).1
   cases a<;>first | rfl | cases this
  have ih:=eachC_sc (G:=G) (n:=n) (cs:=cs) (fun d hd=>hs d (by simp [hd]))
  simp [eachC,run_bindE,ha,ih,Eff.run]
theorem eachE_sc {G:Heap} {n:Nat}: ∀ {es:List (List D)},(∀e∈es, ∀d∈e,sc d=true∧scal d=true)→(eachE (frz (n+1)) es).run G=some (es,[])
 | [],_=>rfl
 | e::es,hs=>by
  have ih:=eachE_sc (G:=G) (n:=n) (es:=es) (fun e he=>hs e (by simp [he]))
  simp [eachE,run_bindE,eachC_sc (G:=G) (n:=n) (hs e (by simp)),ih,Eff.run]
theorem finC_ok (h:RelR fr b N ρ t g) (hg:GhK s g) {os hd0:List Nat} {c:Code} {r:PR} {l:List (T S c)} (hx:finC t c r=some l) :
  ∃d y hd rd,res1 g r=some d∧Xp (S:=S) s g ρ os hd0 (.cl c) d y hd rd∧(VS noRho [] (.one 1 (.list c) l) y∨OwnX c l y):=by
 unfold finC at hx
 split at hx
 ·rename_i v hr
  split at hx
  ·rename_i hsc
   obtain ⟨d,ds,k1,k2,k3,k4⟩:=resT_ok h hr
   have k4:=k4 rfl
   subst k4
   have k5:=gC_ok (by decide) hx k2.one1
   have k5:Cl g.hp 11 (.lst (W (S:=S) c) (l.map (en c))) d:=k5.1
   have htp:tupD d=false:=by
    have:=cl_one rfl k5
    cases d<;>first | rfl | cases this
   obtain ⟨z,z1,z2,z3⟩:=k5.frz
   have zs:=(eff_gh hg.hp (frz_up z1 (show 11≤fuelF by decide))).1
   have hy:VS (S:=S) noRho [] (.one 1 (.list c) l) z.1:=VS.mk_lst (nr_cl rfl z2)
   have plain:exp1 s.hp d=some (z.1,[],z.2)→ ∃d y hd rd,res1 g r=some d∧Xp (S:=S) s g ρ os hd0 (.cl c) d y hd rd∧(VS noRho [] (.one 1 (.list c) l) y∨OwnX c l y):=fun e=>
    ⟨d,z.1,[],z.2,k1,⟨e,htp,fun q=>(by cases q),fun _ q=>(by cases q),fun _=>⟨rfl,.inl rfl,by simp,z3⟩⟩,.inl hy⟩
   by_cases hd: ∃id off len,d= .ref id off len
   ·obtain ⟨id,off,len,rfl⟩:=hd
    rcases k5 with ⟨q,_⟩ | ⟨sz,es,id',off',len',es0,e1,e2,e3,e4,e5,e6⟩ | ⟨_,_,_,_,_,_,_,_,e,_⟩ | ⟨_,_,_,e,_⟩
    ·cases q
    ·cases e1
     cases e2
     rcases hg.hp.2 id with q | ⟨sz2,es2,q1,q2⟩ | ⟨_,_,_,_,q2⟩
     rotate_right
     ·rw [e3] at q2;cases q2
     ·exact plain (by
       have e3':hat s.hp id=_:=q.symm.trans e3
       simp only [exp1,e3',zs];rfl)
     ·rw [e3] at q2
      cases q2
      by_cases hw:off=0∧len=es0.length
      ·obtain ⟨rfl,rfl⟩:=hw
       rw [List.drop_zero,List.take_of_length_le (Nat.le_refl _)] at e5
       have hes: ∀e∈es0, ∀d∈e,sc d=true∧scal d=true:=by
        intro e he d hd
        obtain ⟨i,hi,rfl⟩:=List.mem_iff_getElem.mp he
        have hl:=e5.len
        rw [List.length_map] at hl
        obtain ⟨e',q3,q4⟩:=get_all2 e5 (List.getElem?_eq_getElem (by omega:i<l.length))
        rw [List.getElem?_eq_getElem hi] at q3
        cases q3
        rw [cls_sc (scC_ok hsc) q4] at hd
        exact scC_ok hsc d hd
       refine ⟨_,.own (W (S:=S) c) es0,[id],[],k1,⟨?_,rfl,fun q=>(by cases q),fun _ q=>(by cases q),fun _=>⟨rfl,.inr rfl,fun i hi=>by
        simp only [List.mem_singleton] at hi
        subst hi
        exact ⟨_,_,e3⟩,by simp⟩⟩,.inr (.inr ⟨es0,rfl,?_⟩)⟩
       ·simp only [exp1,q1]
        rw [if_pos ⟨trivial,trivial⟩,show fuelF=11+1 from rfl,eachE_sc hes];rfl
       ·refine ⟨by have:=e5.len;simpa using this.symm,fun i v hv=> ?_⟩
        obtain ⟨e',q3,q4⟩:=get_all2 e5 hv
        refine ⟨e',q3,?_⟩
        rw [cls_sc (scC_ok hsc) q4]
        have: ∀ {cs:List D},(∀d∈cs,sc d=true∧scal d=true)→All2 Nr cs cs:=by
         intro cs
         induction cs with
         | nil=>intro _;trivial
         | cons a cs ih=>intro hs;exact ⟨Nr.rfl' a,ih fun d hd=>hs d (by simp [hd])⟩
        exact nrs_cl (this (scC_ok hsc))
      ·exact plain (by simp only [exp1,q1];rw [if_neg hw,zs];rfl)
    ·cases e
    ·cases e
   ·exact plain (by rw [exp1_frz fun id off len e=>hd ⟨id,off,len,e⟩,zs];rfl)
  ·cases hx
 ·cases hx
theorem finP_ok (h:RelR fr b N ρ t g) (hg:GhK s g) {c:Code} {r:PR} {x:T S c} (hx:finP t c r=some x) :
  ∃d y rd,res1 g r=some d∧exp1 s.hp d=some (y,[],rd)∧VS noRho [] (.fp 1 c x 0) y∧(∀i∈rd,dead g.hp i∨Own ρ i)∧tupD d=false:=by
 unfold finP at hx
 split at hx
 ·rename_i n c' v' j hr
  split at hx
  ·rename_i hn
   simp only [Bool.and_eq_true] at hn
   obtain rfl:=Nat.eq_of_beq_eq_true hn.1
   have hn:=Nat.le_of_ble_eq_true hn.2
   obtain ⟨d,ds,k1,k2,k3,k4⟩:=resT_ok h hr
   have k4:=k4 rfl
   subst k4
   obtain ⟨_,e,r',k⟩:=k2.one1
   cases e
   obtain ⟨z,q1,q2,q3⟩:=k.frz
   have zs:=(eff_gh hg.hp (frz_up q1 (show n≤fuelF by simp only [fuelF];omega))).1
   have hd:tupD d=false∧ ∀id off len,d ≠ .ref id off len:=by
    rcases fptr_cases k with ⟨_,rfl,_⟩ | ⟨_,_,_,_,_,_,_,_,rfl,_⟩<;>exact ⟨rfl,fun _ _ _ e=>by cases e⟩
   refine ⟨d,z.1,z.2,k1,by rw [exp1_frz hd.2,zs];rfl,?_,fun i hi=> .inl (q3 i hi),hd.1⟩
   obtain ⟨ds,e,q4⟩:=q2.fptr
   rw [e]
   obtain ⟨a,a',rfl,q5,q6⟩:=All2.split q4
   refine ⟨a',?_⟩
   refine Cl.plain rfl (Nr.mk_fptr ?_)
   rw [(conv_ok hx).1]
   exact All2.append q5 (by
    have: ∀l:List D,All2 Nr l l:=fun l=>by
     induction l with
     | nil=>trivial
     | cons a l ih=>exact ⟨Nr.rfl' a,ih⟩
    exact this a')
  ·cases hx
 ·rename_i o p i j hr
  split at hx
  ·rename_i vs hc ho
   simp only [Bool.and_eq_true] at hc
   obtain rfl:=Nat.eq_of_beq_eq_true hc.1
   obtain rfl:=Nat.eq_of_beq_eq_true hc.2
   obtain ⟨d,ds,k1,k2,k3',k4⟩:=resT_ok h hr
   have k4:=k4 rfl
   subst k4
   obtain ⟨_,e,id,sz,es,c1,c2,c3,c4⟩:=k2.one1
   cases e
   obtain ⟨id',ds,e1,e2,k3,k9⟩:=h.hp _ _ ho
   rw [c1] at e1;cases e1
   rw [c2] at e2;cases e2
   have k4:=mkT_ok (R:=FzR (Own ρ) g.hp) (fun k z=>FzR.int k z) (fun v c x ds hg k=>gA_ok h hg k) hx k3
   obtain ⟨z,q1,q2,q3⟩:=FzR.each k4
   have zz:(frz fuelF d).run g.hp=some (.fptr z.1,id::z.2):=by
    rw [c4,Nat.zero_mul,Nat.zero_add]
    simp only [fuelF,frz,Eff.run,c2,Nat.zero_div,Nat.zero_mod,List.getElem?_cons_zero,List.drop_zero,run_bindE,q1,Option.bind_some]
   have zs:=(eff_gh hg.hp zz).1
   refine ⟨d,.fptr z.1,id::z.2,k1,?_,⟨[],by rw [List.drop_zero,List.append_nil];exact Cl.plain rfl (Nr.mk_fptr q2)⟩,fun i hi=> ?_,by rw [c4];rfl⟩
   ·rw [exp1_frz (fun _ _ _ e=>by rw [c4] at e;cases e),zs];rfl
   ·simp at hi
    rcases hi with rfl | hi
    ·exact .inr ⟨o,[],c1⟩
    ·exact q3 i hi
  ·cases hx
 ·cases hx
theorem nodupA: ∀ {xs ys:List Nat},nodup xs=true→nodup ys=true→(∀x∈xs,x ∉ ys)→nodup (xs++ys)=true
 | [],_,_,h2,_=>h2
 | x::xs,ys,h1,h2,h3=>by
  simp only [nodup,Bool.and_eq_true,Bool.not_eq_true',List.contains_eq_mem,decide_eq_false_iff_not,List.cons_append,List.mem_append,not_or] at h1 ⊢
  exact ⟨⟨h1.1,h3 x (by simp)⟩,nodupA h1.2 h2 fun y hy=>h3 y (by simp [hy])⟩
theorem cutR_ne' {P:Nat→List Nat→Bool} {i:Nat} (h:Own (cutR ρ P) i): ∃o p,P o p=false∧ρ o p=some (some i):=by
 obtain ⟨o,p,h⟩:=h
 obtain ⟨h1,h2⟩:=cutR_some h
 exact ⟨o,p,h1,h2⟩
theorem nodupB_app: ∀ {xs ys:List Nat},nodupB (xs++ys)=true→nodupB ys=true∧ ∀x∈xs,x ∉ ys
 | [],ys,h=>⟨h,by simp⟩
 | x::xs,ys,h=>by
  simp only [List.cons_append,nodupB,Bool.and_eq_true,Bool.not_eq_true',List.contains_eq_mem,decide_eq_false_iff_not,List.mem_append,not_or] at h
  obtain ⟨h1,h2⟩:=nodupB_app h.2
  exact ⟨h1,fun y hy=>by
   rcases List.mem_cons.1 hy with rfl | hy
   ·exact h.1.2
   ·exact h2 y hy⟩
structure Xs (s g:St) (ρ:Rho) (os hd:List Nat) (ks:List RK) (ds xs:List D) (h rd:List Nat):Prop where
 e:expL s.hp ds=some (xs,h,rd)
 tp: ∀d∈ds,tupD d=false
 len:ds.length=ks.length
 no:ks.filter isCl= []→(∀id∈h, ∃o∈hd,ρ o []=some (some id))∧nodup h=true∧ ∀i∈rd,dead g.hp i ∨ ∃o p,ρ o p=some (some i)∧(os.contains o=false∨p ≠ [])
 pl:ks.all (plR (S:=S))=true→ks.filter isCl= []→h= []∧rd= []
 cl:ks.all (plR (S:=S))=true→ ∀k,ks.filter isCl= [k]→nodup h=true∧(h= []∨rd= [])∧(∀id∈h,dead g.hp id)∧ ∀i∈rd,dead g.hp i
theorem Xs.cons (hr:RelR fr b N ρ t g) {os hd1 hd:List Nat} {k:RK} {ks:List RK} {d y:D} {ds xs:List D} {h1 h rd1 rd:List Nat} (hn: ∀x∈hd1,x ∉ hd) (hx:Xp (S:=S) s g ρ os hd1 k d y h1 rd1) (h2:Xs (S:=S) s g ρ os hd ks ds xs h rd) :
  Xs (S:=S) s g ρ os (hd1++hd) (k::ks) (d::ds) (y::xs) (h1++h) (rd1++rd):=by
 refine ⟨by simp only [expL,hx.e,h2.e,Option.bind_some],fun d' hd'=> ?_,by simp [h2.len],fun hk=> ?_,fun hp hk=> ?_,fun hp k' hk=> ?_⟩
 ·rcases List.mem_cons.1 hd' with rfl | hd'
  ·exact hx.tp
  ·exact h2.tp _ hd'
 ·cases hc:isCl k with
  | true=>rw [List.filter_cons_of_pos hc] at hk;cases hk
  | false=>
   rw [List.filter_cons_of_neg (by rw [hc];simp)] at hk
   obtain ⟨a1,a2,a3⟩:=hx.no hc
   obtain ⟨b1,b2,b3⟩:=h2.no hk
   refine ⟨fun id hid=> ?_,nodupA a2 b2 fun x hx1 hx2=> ?_,fun i hi=> ?_⟩
   ·rcases List.mem_append.1 hid with q | q
    ·obtain ⟨o,o1,o2⟩:=a1 id q
     exact ⟨o,by simp [o1],o2⟩
    ·obtain ⟨o,o1,o2⟩:=b1 id q
     exact ⟨o,by simp [o1],o2⟩
   ·obtain ⟨o,o1,o2⟩:=a1 x hx1
    obtain ⟨o',o3,o4⟩:=b1 x hx2
    obtain ⟨rfl,_⟩:=hr.inj _ _ _ _ _ o2 o4
    exact hn o o1 o3
   ·rcases List.mem_append.1 hi with q | q
    ·exact a3 i q
    ·exact b3 i q
 ·simp only [List.all_cons,Bool.and_eq_true] at hp
  cases hc:isCl k with
  | true=>rw [List.filter_cons_of_pos hc] at hk;cases hk
  | false=>
   rw [List.filter_cons_of_neg (by rw [hc];simp)] at hk
   obtain ⟨rfl,rfl⟩:=hx.pl hp.1 hc
   obtain ⟨rfl,rfl⟩:=h2.pl hp.2 hk
   exact ⟨rfl,rfl⟩
 ·simp only [List.all_cons,Bool.and_eq_true] at hp
  cases hc:isCl k with
  | true=>
   rw [List.filter_cons_of_pos hc] at hk
   injection hk with _ hk
   obtain ⟨rfl,rfl⟩:=h2.pl hp.2 hk
   simpa using hx.cl hc
  | false=>
   rw [List.filter_cons_of_neg (by rw [hc];simp)] at hk
   obtain ⟨rfl,rfl⟩:=hx.pl hp.1 hc
   simpa using h2.cl hp.2 k' hk
theorem finR_ok (h:RelR fr b N ρ t g) {os:List Nat} (h':RelR fr b N (cutR ρ (inP os)) (t.clear (inP os)) g) (hg:GhK s g): ∀ {ks:List RK} {rs:List PR} {p:Flds S (rcs ks)},nodupB (hands t ks rs)=true→finR t (t.clear (inP os)) ks rs=some p →
  ∃ds xs hd rd,resL g rs=some ds∧Xs (S:=S) s g ρ os (hands t ks rs) ks ds xs hd rd∧ResX ks p xs
 | [],[],p,_,hp=>⟨[],[],[],[],rfl,⟨rfl,by simp,rfl,fun _=>⟨by simp,rfl,by simp⟩,fun _ _=>⟨rfl,rfl⟩,fun _ k hk=>by cases hk⟩,rfl⟩
 | [],_::_,_,_,hp=>by simp [finR] at hp
 | .val c::ks,r::rs,p,hn,hp=>by
  simp only [finR] at hp
  split at hp
  ·rename_i x q hx hq
   cases hp
   obtain ⟨hn1,hn2⟩:=nodupB_app hn
   obtain ⟨ds,xs,hd,rd2,m1,m2,m3⟩:=finR_ok h h' hg hn1 hq
   obtain ⟨d,y,rd,k1,k2,k3,k4,k5,k6⟩:=finV_ok h' hg hx
   exact ⟨d::ds,y::xs,[]++hd,rd++rd2,by simp only [resL,k1,m1,Option.bind_some,Option.map_some],Xs.cons h hn2 ⟨k2,k5,fun _=>⟨by simp,rfl,fun i hi=>(k4 i hi).imp_right fun q=>by
    obtain ⟨o,p,q1,q2⟩:=cutR_ne' q
    exact ⟨o,p,q2,.inl q1⟩⟩,fun hp _=>⟨rfl,k6 hp⟩,fun q=>by cases q⟩ m2,k3,m3⟩
  ·cases hp
 | .own c::ks,r::rs,p,hn,hp=>by
  simp only [finR] at hp
  split at hp
  ·rename_i x q hx hq
   cases hp
   obtain ⟨hn1,hn2⟩:=nodupB_app hn
   obtain ⟨ds,xs,hd,rd2,m1,m2,m3⟩:=finR_ok h h' hg hn1 hq
   obtain ⟨d,y,hd1,rd,k1,k2,k3⟩:=finO_ok (os:=os) h hg hx
   exact ⟨d::ds,y::xs,hd1++hd,rd++rd2,by simp only [resL,k1,m1,Option.bind_some,Option.map_some],Xs.cons h hn2 k2 m2,k3,m3⟩
  ·cases hp
 | .cl c::ks,r::rs,p,hn,hp=>by
  simp only [finR] at hp
  split at hp
  ·rename_i x q hx hq
   cases hp
   obtain ⟨hn1,hn2⟩:=nodupB_app hn
   obtain ⟨ds,xs,hd,rd2,m1,m2,m3⟩:=finR_ok h h' hg hn1 hq
   obtain ⟨d,y,hd1,rd,k1,k2,k3⟩:=finC_ok (os:=os) (hd0:=hand1 t (.cl c) r) h hg hx
   exact ⟨d::ds,y::xs,hd1++hd,rd++rd2,by simp only [resL,k1,m1,Option.bind_some,Option.map_some],Xs.cons h hn2 k2 m2,k3,m3⟩
  ·cases hp
 | .fp c::ks,r::rs,p,hn,hp=>by
  simp only [finR] at hp
  split at hp
  ·rename_i x q hx hq
   cases hp
   obtain ⟨hn1,hn2⟩:=nodupB_app hn
   obtain ⟨ds,xs,hd,rd2,m1,m2,m3⟩:=finR_ok h h' hg hn1 hq
   obtain ⟨d,y,rd,k1,k2,k3,k4,k5⟩:=finP_ok h' hg hx
   exact ⟨d::ds,y::xs,[]++hd,rd++rd2,by simp only [resL,k1,m1,Option.bind_some,Option.map_some],Xs.cons h hn2 ⟨k2,k5,fun _=>⟨by simp,rfl,fun i hi=>(k4 i hi).imp_right fun q=>by
    obtain ⟨o,p,q1,q2⟩:=cutR_ne' q
    exact ⟨o,p,q2,.inl q1⟩⟩,(fun hp _=>by cases hp),fun q=>by cases q⟩ m2,k3,m3⟩
  ·cases hp
 | .val _::_,[],_,_,hp | .own _::_,[],_,_,hp | .cl _::_,[],_,_,hp | .fp _::_,[],_,_,hp=>by simp [finR] at hp
theorem apart_of {xs ys:List Nat} (h: ∀x∈xs, ∀y∈ys,x≠y):apart xs ys=true:=by
 simp only [apart,List.all_eq_true,Bool.not_eq_true',List.contains_eq_mem,decide_eq_false_iff_not]
 exact fun x hx hy=>h x hx x hy rfl
end
end Go.Pi
namespace Go.Pi
set_option linter.unusedVariables false
section
variable {S:Nat→Type} [Sg:Sig S] {ρ ρ':Rho} {H H':Heap} {fr:Fr} {b N:Nat} {t:TS S} {s g:St} {pr:Prog}
structure Outs (s g:St) (ρ:Rho) (ks:List RK) (rs:List PR) (p:Flds S (rcs ks)) (hs os:List Nat) (d:D) (xs:List D) (hd rd:List Nat):Prop where
 res:resV s rs=some d
 tp:tupD d=tpR ks
 e:expL s.hp (comps d)=some (xs,hd,rd)
 nd:nodup hd=true
 ap:apart hd rd=true
 x:ResX ks p xs
 ids: ∀id∈hd,(dead g.hp id∧ks.filter isCl ≠ []) ∨ ∃o∈hs,ρ o []=some (some id)
 rds: ∀i∈rd,dead g.hp i ∨ ∃o p,ρ o p=some (some i)∧(os.contains o=false∨p ≠ [])
theorem okR_cases {ks:List RK} (h:okR (S:=S) ks=true):ks.filter isCl= [] ∨ ∃k,ks.filter isCl= [k]∧ks.all (plR (S:=S))=true:=by
 unfold okR at h
 split at h
 ·exact .inl (by assumption)
 ·rename_i k hk
  exact .inr ⟨k,hk,h⟩
 ·cases h
theorem dead_not {H:Heap} {id:Nat} {sz:Nat} {es:List (List D)} (h:hat H id= .row sz es true) (k:dead H id):False:=by
 obtain ⟨_,_,k⟩:=k
 rw [h] at k
 cases k
theorem finT_ok (h:RelR fr b N ρ t g) (hg:GhK s g) {x:List Nat} {ks:List RK} {rs:List PR} {p:Flds S (rcs ks)} (hp:finT x ks rs t=some p): ∃d xs hd rd,Outs s g ρ ks rs p (hands t ks rs) (x++hands t ks rs) d xs hd rd:=by
 unfold finT at hp
 split at hp
 ·rename_i hc
  simp only [Bool.and_eq_true] at hc
  obtain ⟨hn,hk⟩:=hc
  have h':=h.clear (P:=inP (x++hands t ks rs)) (fun o p q=>q)
  obtain ⟨ds,xs,hd,rd,k1,k2,k3⟩:=finR_ok h h' hg hn hp
  have live: ∀ {o p i},ρ o p=some (some i)→dead g.hp i→False:=fun e k=>by
   obtain ⟨_,sz,es,q⟩:=h.liv _ _ _ e
   exact dead_not q k
  obtain ⟨c1,c2,c3,c4⟩:nodup hd=true∧apart hd rd=true∧(∀id∈hd,(dead g.hp id∧ks.filter isCl ≠ []) ∨ ∃o∈hands t ks rs,ρ o []=some (some id))∧ ∀i∈rd,dead g.hp i ∨ ∃o p,ρ o p=some (some i)∧((x++hands t ks rs).contains o=false∨p ≠ []):=by
   rcases okR_cases hk with e | ⟨k,e,e2⟩
   ·obtain ⟨a1,a2,a3⟩:=k2.no e
    refine ⟨a2,apart_of fun i hi j hj e=> ?_,fun id hid=> .inr (a1 id hid),a3⟩
    subst e
    obtain ⟨o,o1,o2⟩:=a1 i hi
    rcases a3 i hj with q | ⟨o',p',q1,q2⟩
    ·exact live o2 q
    ·obtain ⟨rfl,rfl⟩:=h.inj _ _ _ _ _ o2 q1
     rcases q2 with q2 | q2
     ·simp [o1] at q2
     ·exact q2 rfl
   ·obtain ⟨a1,a2,a3,a4⟩:=k2.cl e2 k e
    refine ⟨a1,?_,fun id hid=> .inl ⟨a3 id hid,by rw [e];simp⟩,fun i hi=> .inl (a4 i hi)⟩
    rcases a2 with rfl | rfl
    ·rfl
    ·exact apart_of fun _ _ _ hj=>nomatch hj
  have fin: ∀d,comps d=ds→tupD d=tpR ks→resV s rs=some d→ ∃d xs hd rd,Outs s g ρ ks rs p (hands t ks rs) (x++hands t ks rs) d xs hd rd:=fun d q1 q2 q3=>
   ⟨d,xs,hd,rd,q3,q2,by rw [q1];exact k2.e,c1,c2,k3,c3,c4⟩
  have hs:=resL_gh hg k1
  have hl:=k2.len
  match ks,ds,hs,hl,k2 with
  | [],[],hs,hl,k2=>exact fin (.tup []) rfl rfl (by simp only [resV,hs,Option.map_some])
  | [_],[d],hs,hl,k2=>
   have hnt:=k2.tp d (by simp)
   exact fin d (by cases d<;>first | rfl | cases hnt) hnt (by simp only [resV,hs,Option.map_some])
  | _::_::_,d::d2::ds,hs,hl,k2=>exact fin (.tup (d::d2::ds)) rfl rfl (by simp only [resV,hs,Option.map_some])
 ·cases hp
def enum {α:Type}:Nat→List α→List (Nat×α)
 | _,[]=> []
 | i,v::vs=>(i,v)::enum (i+1) vs
theorem look_enum {α:Type}: ∀ {vs:List α} {i j:Nat} {v:α},look (enum i vs) j=some v→ ∃k,j=i+k∧vs[k]? = some v
 | [],_,_,_,h=>nomatch h
 | w::vs,i,j,v,h=>by
  simp only [enum,look] at h
  split at h
  ·rename_i e
   cases h
   exact ⟨0,(Nat.eq_of_beq_eq_true e).symm,rfl⟩
  ·obtain ⟨k,h1,h2⟩:=look_enum h
   exact ⟨k+1,by omega,by simpa using h2⟩
def t0 (vs:List (Val S)):TS S:=⟨enum 0 vs,[],1,[],false⟩
def fr0:Fr:=⟨fun _=>none,fun _=>0⟩
theorem sl0 {vs:List (Val S)} {ds:List D} {ρ:Rho} {H:Heap} {k i:Nat} {v:Val S} (h:All2 (VS ρ H) vs ds) (hv:look (enum 0 vs) i=some v):VS ρ H v ((ds++List.replicate k D.undef).getD i .undef):=by
 obtain ⟨j,e,hj⟩:=look_enum hv
 rw [Nat.zero_add] at e
 subst e
 have hl:=h.len
 have hi:=(List.getElem?_eq_some_iff.1 hj).1
 obtain ⟨d,h1,h2⟩:=h.get hj
 rw [List.getD_eq_getElem?_getD,List.getElem?_append_left (by omega),h1]
 exact h2
theorem RelR.t0 {vs:List (Val S)} {ds:List D} (hN:ds.length≤N) (h:All2 (VS noRho []) vs ds):RelR fr0 0 N noRho (Pi.t0 vs) ⟨ds++List.replicate (N-ds.length) D.undef,[]⟩:=
 ⟨by simp;omega,fun i v hv=>sl0 h hv,fun o ob ho=>(by cases ho),fun _ _ _ _ _ e=>(by cases e),fun _ _ _ e=>(by cases e),fun _ _ _=>rfl,fun _ _ e=>(by cases e),List.nodup_nil,fun _ hr=>nomatch hr⟩
def endF (ks:List RK) (rs:List PR) (ex:Ex) (t:TS S):Option (Flds S (rcs ks)):=match ex with
 | .exit _=>none
 | _=>finT [] ks rs t
def bodyF (Γ:List (Entry S pr)) (N k:Nat) (c:AC) (ps:List PK) (ks:List RK) (rs:List PR) (p:Flds S (pcs ps)):Option (Flds S (rcs ks)):=run Γ N k c (t0 (pVals ps p)) (endF ks rs)
theorem pVals_len: ∀ {ps:List PK} {p:Flds S (pcs ps)},(pVals ps p).length=ps.length
 | [],_=>rfl
 | .val _::ps,p=>congrArg (· + 1) (pVals_len (ps:=ps) (p:=p.2))
 | .ptr _::ps,p=>congrArg (· + 1) (pVals_len (ps:=ps) (p:=p.2))
 | .fn _::ps,p=>congrArg (· + 1) (pVals_len (ps:=ps) (p:=p))
theorem FOk.of {f:Nat} {pf:PF} {Γ:List (Entry S pr)} {k:Nat} {c:AC} {ps:List PK} {ks:List RK} (hf:pr f=some pf) (ho:pf.orc=none) (hb:pf.body=c.er) (hN:Nat.ble ps.length pf.ntmps=true) :
  FOk pr f ps ks (bodyF Γ pf.ntmps k c ps ks pf.results):=by
 intro p r hr ds hds
 refine Runs.body hf ho ?_
 have hl:=hds.len
 rw [pVals_len] at hl
 have hN:=Nat.le_of_ble_eq_true hN
 rw [hb]
 refine (run_ok c hr (RelR.t0 (by omega) hds)).mono ?_
 rintro ex s ⟨t',k1,g,ρ,k2,k3⟩
 have key:finT [] ks pf.results t'=some r→ ∃d,resV s pf.results=some d∧tupD d=tpR ks∧ ∃xs hs rd,expL s.hp (comps d)=some (xs,hs,rd)∧nodup hs=true∧apart hs rd=true∧ResX ks r xs:=fun q=>by
  obtain ⟨d,xs,hd,rd,o⟩:=finT_ok k3 k2 q
  exact ⟨d,o.res,o.tp,xs,hd,rd,o.e,o.nd,o.ap,o.x⟩
 cases ex with
 | exit i=>cases k1
 | normal=>exact ⟨fun _ e=>(by cases e),key k1⟩
 | ret=>exact ⟨fun _ e=>(by cases e),key k1⟩
def tL (c:Code) (a:T S c) (vs:List (Val S)):TS S:=⟨enum 0 (.ptr 0 [] 0 0::vs),[(0,.box (some 0) [.one 1 c a])],1,[],false⟩
def endL (c:Code) (ks:List RK) (rs:List PR) (ex:Ex) (t:TS S):Option (T S c×Flds S (rcs ks)):=match ex with
 | .exit _=>none
 | _=>match look t.hp 0 with
  | some (.box (some n) vs)=>(match mk 11 c vs,finT [0] ks rs t,ks.all (fun k => !isCl k) && !(hands t ks rs).contains 0 with
   | some a,some p,true=>some (a,p)
   | _,_,_=>none)
  | _=>none
def bodyL (Γ:List (Entry S pr)) (N k:Nat) (cd:AC) (c:Code) (ps:List PK) (ks:List RK) (rs:List PR) (p:T S c×Flds S (pcs ps)):Option (T S c×Flds S (rcs ks)):=run Γ N k cd (tL c p.1 (pVals ps p.2)) (endL c ks rs)
def rhoL:Rho:=fun o p=>match o,p with
 | 0,[]=>some (some 0)
 | _,_=>none
theorem rhoL_some {o:Nat} {p:List Nat} {x:Option Nat} (h:rhoL o p=some x):o=0∧p= []∧x=some 0:=by
 unfold rhoL at h
 split at h
 ·cases h;exact ⟨rfl,rfl,rfl⟩
 ·cases h
theorem RelR.tL {c:Code} {a:T S c} {cs:List D} {vs:List (Val S)} {ds:List D} (hW:0<W (S:=S) c) (hN:ds.length+1≤N) (hc:All2 (Cl [] 1) (en c a) cs) (h:All2 (VS noRho []) vs ds) :
  RelR fr0 0 N rhoL (Pi.tL c a vs) ⟨(D.ptr 0 0::ds)++List.replicate (N-(ds.length+1)) D.undef,[.row (W (S:=S) c) [cs] true]⟩:=by
 refine ⟨by simp;omega,fun i v hv=>sl0 (vs:= .ptr 0 [] 0 0::vs) ⟨?_,h.mono fun _ _ _ q=>q.fromNo⟩ hv,fun o ob ho=> ?_,fun o p o' p' _ e1 e2=> ?_,fun o p id e=> ?_,fun o p ho=> ?_,fun _ _ e=>(by cases e),List.nodup_nil,fun _ hr=>nomatch hr⟩
 ·exact ⟨0,_,[cs],rfl,rfl,hW,by simp⟩
 ·simp only [Pi.tL,look] at ho
  split at ho
  ·rename_i e
   cases ho
   obtain rfl:=Nat.eq_of_beq_eq_true e
   exact ⟨0,cs,rfl,by simp [widths,width,hat],VCs.single (cls_heap (HLe.nil _) hc),rfl⟩
  ·cases ho
 ·obtain ⟨rfl,rfl,_⟩:=rhoL_some e1
  obtain ⟨rfl,rfl,_⟩:=rhoL_some e2
  exact ⟨rfl,rfl⟩
 ·obtain ⟨rfl,rfl,e⟩:=rhoL_some e
  cases e
  exact ⟨rfl,_,_,rfl⟩
 ·cases e:rhoL o p with
  | none=>rfl
  | some x=>
   obtain ⟨rfl,_⟩:=rhoL_some e
   exact absurd ho (by simp [Pi.tL])
theorem LOk.of {f:Nat} {pf:PF} {Γ:List (Entry S pr)} {k:Nat} {cd:AC} {c:Code} {ps:List PK} {ks:List RK} (hf:pr f=some pf) (ho:pf.orc=none) (hb:pf.body=cd.er) (hN:Nat.ble (ps.length+1) pf.ntmps=true) (hW:Nat.blt 0 (W (S:=S) c)=true) :
  LOk pr f c ps ks (bodyL Γ pf.ntmps k cd c ps ks pf.results):=by
 intro p r hr cs ds hcs hds
 refine Runs.body hf ho ?_
 have hl:=hds.len
 rw [pVals_len] at hl
 have hN:=Nat.le_of_ble_eq_true hN
 rw [hb]
 have hW:0<W (S:=S) c:=by simpa using hW
 refine (run_ok cd hr (RelR.tL hW (by omega) hcs hds)).mono ?_
 rintro ex s ⟨t',k1,g,ρ,k2,k3⟩
 have key:endL c ks pf.results .normal t'=some r→ ∃d,resV s pf.results=some d∧tupD d=tpR ks∧ ∃xs hs rd cs2 ry,expL s.hp (comps d)=some (xs,hs,rd)∧nodup hs=true∧apart hs rd=true∧ResX ks r.2 xs ∧
  expB s.hp 0 [(0,true)]=some ([(0,.row (W (S:=S) c) [cs2] true)],ry)∧All2 (Cl [] 1) (en c r.1) cs2∧apart hs ry=true∧apart hs [0]=true∧apart [0] rd=true∧apart [0] ry=true:=fun q=>by
  simp only [endL] at q
  split at q
  ·rename_i n vs hb
   split at q
   ·rename_i a p' ha hp' hc
    cases q
    simp only [Bool.and_eq_true,Bool.not_eq_true'] at hc
    obtain ⟨hc1,hc2⟩:=hc
    obtain ⟨d,xs,hd,rd,o⟩:=finT_ok k3 k2 hp'
    obtain ⟨id,dc,b1,b2,b3,b4⟩:=k3.hp _ _ hb
    have b4:id=0:=b4
    subst b4
    have hmk:=mk_ok (by decide) ha b3
    have hw:widths vs=W (S:=S) c:=by rw [← b3.len, ← hmk.len,encs_len]
    rw [hw] at b2
    obtain ⟨z,z1,z2,z3⟩:=cls_each (P:=fun _=>False) (Nat.le_refl 11) hmk
    have z3: ∀i∈z.2,dead g.hp i:=fun i hi=>(z3 i hi).elim (fun q=>q) fun q=>q.elim
    have zE:(eachE (frz fuelF) [dc]).run g.hp=some ([z.1],z.2):=by
     have:(eachE (frz 11) [dc]).run g.hp=some ([z.1],z.2):=by simp [eachE,run_bindE,z1,Eff.run]
     exact eachE_up (by decide) this
    have zs:=(eff_gh k2.hp zE).1
    have b2s:hat s.hp 0= .row (W (S:=S) c) [dc] true:=by
     rcases k2.hp.2 0 with q | ⟨_,_,_,q⟩ | ⟨_,_,_,_,q⟩
     ·rw [← q];exact b2
     ·rw [b2] at q;cases q
     ·rw [b2] at q;cases q
    have nocl:ks.filter isCl= []:=by
     rw [List.filter_eq_nil_iff]
     intro k hk
     have:=List.all_eq_true.1 hc1 k hk
     simpa using this
    have live: ∀ {o p i},ρ o p=some (some i)→dead g.hp i→False:=fun e k=>by
     obtain ⟨_,sz,es,q⟩:=k3.liv _ _ _ e
     exact dead_not q k
    have hids: ∀i∈hd, ∃q∈hands t' ks pf.results,ρ q []=some (some i):=fun i hi=>by
     rcases o.ids i hi with ⟨_,q⟩ | q
     ·exact absurd nocl q
     ·exact q
    refine ⟨d,o.res,o.tp,xs,hd,rd,z.1,z.2,o.e,o.nd,o.ap,o.x,?_,nrs_cl z2,?_,?_,?_,?_⟩
    ·simp only [expB,b2s,zs,Option.bind_some,List.append_nil]
    ·refine apart_of fun i hi j hj e=> ?_
     subst e
     obtain ⟨q,_,q2⟩:=hids i hi
     exact live q2 (z3 i hj)
    ·refine apart_of fun i hi j hj e=> ?_
     subst e
     simp only [List.mem_singleton] at hj
     subst hj
     obtain ⟨q,q1,q2⟩:=hids 0 hi
     obtain ⟨rfl,_⟩:=k3.inj _ _ _ _ _ q2 b1
     simp [q1] at hc2
    ·refine apart_of fun i hi j hj e=> ?_
     subst e
     simp only [List.mem_singleton] at hi
     subst hi
     rcases o.rds 0 hj with q | ⟨o',p'',q1,q2⟩
     ·exact live b1 q
     ·obtain ⟨rfl,rfl⟩:=k3.inj _ _ _ _ _ q1 b1
      rcases q2 with q2 | q2
      ·simp at q2
      ·exact q2 rfl
    ·refine apart_of fun i hi j hj e=> ?_
     subst e
     simp only [List.mem_singleton] at hi
     subst hi
     exact live b1 (z3 0 hj)
   ·cases q
  ·cases q
 cases ex with
 | exit i=>cases k1
 | normal=>exact ⟨fun _ e=>(by cases e),key k1⟩
 | ret=>exact ⟨fun _ e=>(by cases e),key k1⟩
end
end Go.Pi
namespace Go.Pi
set_option linter.unusedVariables false
def slimO (o:PO):PO:=⟨o.dst,o.op,o.guard,[],o.res⟩
def slim:PC→PC
 | .region false k ops=> .region false k (ops.map slimO)
 | .seq a b=> .seq (slim a) (slim b)
 | .cond c x y=> .cond c (slim x) (slim y)
 | .block id c=> .block id (slim c)
 | .loop c=> .loop (slim c)
 | c=>c
def slimF (f:PF):PF:=⟨f.ntmps,f.results,slim f.body,f.orc⟩
theorem seqR_slim {c:CallF} {b:Nat}: ∀ {ops:List PO} {s:St},seqR c b (ops.map slimO) s=seqR c b ops s
 | [],_=>rfl
 | o::ops,s=>by
  have e:stepO c b (slimO o) s=stepO c b o s:=rfl
  simp only [List.map_cons,seqR,e]
  congr 1
  funext s'
  exact seqR_slim
theorem code_slim {c:CallF} {n:Nat}: ∀ {q:PC} {s:St},code c n (slim q) s=code c n q s
 | .skip,_=>rfl
 | .ret,_=>rfl
 | .exit _,_=>rfl
 | .region false k ops,s=>by simp only [slim,code,Bool.false_eq_true,if_false,seqR_slim]
 | .region true k ops,s=>rfl
 | .seq a b,s=>by
  simp only [slim,code,code_slim (q:=a)]
  split
  ·exact code_slim
  ·rfl
 | .cond q x y,s=>by simp only [slim,code,code_slim (q:=x),code_slim (q:=y)]
 | .block id q,s=>by simp only [slim,code,code_slim (q:=q)]
 | .loop q,s=>by
  simp only [slim,code]
  congr 1
  funext s
  exact code_slim
theorem runN_slim {P P':Prog} (hp: ∀f,P' f=(P f).map slimF): ∀n,runN P' n=runN P n
 | 0=>rfl
 | n+1=>by
  funext f a H
  simp only [runN,hp,runN_slim hp n]
  cases P f with
  | none=>rfl
  | some pf=>
   simp only [Option.map_some,slimF]
   cases pf.orc with
   | some g=>rfl
   | none=>simp only [code_slim]
theorem Runs.slim {P P':Prog} (hp: ∀f,P' f=(P f).map slimF) {f:Nat} {a:List D} {H:Heap} {Q:D→Heap→Prop} (h:Runs P' f a H Q):Runs P f a H Q:=by
 obtain ⟨n,d,H',h1,h2⟩:=h
 exact ⟨n,d,H',by rw [← runN_slim hp n];exact h1,h2⟩
end Go.Pi
namespace Go.Pi
set_option linter.unusedVariables false
inductive An where
 | l (h:ShapeK) (xs:List (Ex×ShapeK))
 | h (C:HC)
 | c (n:Nat) (xs:List (Ex×ShapeK))
 | e (n:Nat) (cd:Code)
 | z (n i:Nat)
 | y (n i j:Nat)
 | n (n:Nat) (e:Code)
 | u (n i:Nat)
 | w (n i j:Nat)
 | b (n i j:Nat)
 | p (n:Nat) (os:List AO)
 | g (n:Nat) (os:List AO)
def popZ {α:Type} (n:Nat):List An→(List An→List AO×α)→List AO×α
 | .z m i::as,K=>(match Nat.beq m n with
  | true=>(match popZ n as K with | (x,r)=>(.fz i::x,r))
  | false=>K (.z m i::as))
 | .y m i j::as,K=>(match Nat.beq m n with
  | true=>(match popZ n as K with | (x,r)=>(.fzA i j::x,r))
  | false=>K (.y m i j::as))
 | .b m i j::as,K=>(match Nat.beq m n with
  | true=>(match popZ n as K with | (x,r)=>(.fzB i j::x,r))
  | false=>K (.b m i j::as))
 | .w m i j::as,K=>(match Nat.beq m n with
  | true=>(match popZ n as K with | (x,r)=>(.fzN i j::x,r))
  | false=>K (.w m i j::as))
 | .u m i::as,K=>(match Nat.beq m n with
  | true=>(match popZ n as K with | (x,r)=>(.un i::x,r))
  | false=>K (.u m i::as))
 | as,K=>K as
def popE {α:Type} (n:Nat):List An→(Code→List An→α)→α
 | .e m cd::as,K=>(match Nat.beq m n with
  | true=>K cd as
  | false=>K .bool (.e m cd::as))
 | as,K=>K .bool as
def annP {α:Type} (o:PO) (n:Nat) (as:List An) (K:AO→List An→α):α:=match o with
 | ⟨dst,.callH f args,some (gt,gb),_,res⟩=>(match as with
  | .h C::as=>K (.hg dst f args gt gb C res) as
  | as=>K (.g dst (.callH f args) gt gb res .bool) as)
 | ⟨dst,op,some (gt,gb),_,res⟩=>popE n as fun cd as=>K (.g dst op gt gb res cd) as
 | ⟨dst,.callH f args,none,_,res⟩=>(match as with
  | .h C::as=>K (.h dst f args C res) as
  | as=>K (.o dst (.callH f args) res .bool) as)
 | ⟨dst,op,none,_,res⟩=>popE n as fun cd as=>K (.o dst op res cd) as
def isN (n:Nat):List An→Option (Code×List An)
 | .n m e::as=>(match Nat.beq m n with
  | true=>some (e,as)
  | false=>none)
 | _=>none
def mk3 (e:Code):PO→PO→PO→Option AO
 | ⟨some a,.append sz b x y,none,_,r1⟩,⟨some d,.indexAddr 1 u i,none,_,r2⟩,⟨none,.store 1 (.t d') (.t a'),none,_,r3⟩=>(match Nat.beq d d'&&Nat.beq a a' with
  | true=>some (.n3 a e sz b x y r1 d u i r2 r3)
  | false=>none)
 | _,_,_=>none
def annO:List PO→Nat→List An→List AO×(Nat×List An)
 | [],n,as=>popZ n as fun as=>([],n+1,as)
 | [o],n,as=>popZ n as fun as=>annP o n as fun a as=>(match annO [] (n+1) as with | (x,r)=>(a::x,r))
 | [o,o2],n,as=>popZ n as fun as=>annP o n as fun a as=>(match annO [o2] (n+1) as with | (x,r)=>(a::x,r))
 | o::o2::o3::os,n,as=>popZ n as fun as=>(match isN n as with
  | some (e,as1)=>(match mk3 e o o2 o3 with
   | some a=>(match annO os (n+3) as1 with | (x,r)=>(a::x,r))
   | none=>annP o n as fun a as=>(match annO (o2::o3::os) (n+1) as with | (x,r)=>(a::x,r)))
  | none=>annP o n as fun a as=>(match annO (o2::o3::os) (n+1) as with | (x,r)=>(a::x,r)))
def annD:List PO→Nat→List An→List AOD×(Nat×List An)
 | [],n,as=>([],n+1,as)
 | o::os,n,as=>popE n as fun cd as=>(match annD os (n+1) as with | (x,r)=>(⟨o.dst,o.op,o.guard,o.after,o.res,cd⟩::x,r))
inductive Wr where
 | id
 | gh (os:List AO)
 | pg (os:List AO)
def Wr.on:Wr→AC→AC
 | .id,a=>a
 | .gh os,a=> .gh os a
 | .pg os,a=> .pg os a
def popG {α:Type} (n:Nat):List An→(Wr→List An→α)→α
 | .g m os::as,K=>(match Nat.beq m n with
  | true=>K (.gh os) as
  | false=>K .id (.g m os::as))
 | .p m os::as,K=>(match Nat.beq m n with
  | true=>K (.pg os) as
  | false=>K .id (.p m os::as))
 | as,K=>K .id as
def popC {α:Type} (n:Nat):List An→(Option (List (Ex×ShapeK))×Wr→List An→α)→α
 | .c m xs::as,K=>(match Nat.beq m n with
  | true=>popG n as fun g as=>K (some xs,g) as
  | false=>K (none,.id) (.c m xs::as))
 | as,K=>popG n as fun g as=>K (none,g) as
def wrapC:Option (List (Ex×ShapeK))×Wr→AC→AC
 | (none,g),a=>g.on a
 | (some xs,g),a=> .cut xs (g.on a)
def annC:PC→Nat→List An→AC×(Nat×List An)
 | .skip,n,as=>(.skip,n,as)
 | .ret,n,as=>(.ret,n,as)
 | .exit j,n,as=>(.exit j,n,as)
 | .region false k ops,n,as=>popC n as fun w as=>(match annO ops (n+1) as with | (x,r)=>(wrapC w (.reg k x),r))
 | .region true k ops,n,as=>popC n as fun w as=>(match annD ops (n+1) as with | (x,r)=>(wrapC w (.regd k x),r))
 | .seq a b,n,as=>popC n as fun w as=>(match annC a (n+1) as with
  | (x,n,as)=>(match annC b n as with | (y,r)=>(wrapC w (.seq x y),r)))
 | .cond c a b,n,as=>popC n as fun w as=>(match annC a (n+1) as with
  | (x,n,as)=>(match annC b n as with | (y,r)=>(wrapC w (.cond c x y),r)))
 | .block j a,n,as=>popC n as fun w as=>(match annC a (n+1) as with | (x,r)=>(wrapC w (.block j x),r))
 | .loop a,n,as=>popC n as fun w as=>(match as with
  | .l h xs::as=>(match annC a (n+1) as with | (x,r)=>(wrapC w (.loop h xs x),r))
  | as=>(match annC a (n+1) as with | (x,r)=>(wrapC w (.loop ⟨[],[],0,false⟩ [] x),r)))
def annF (p:PF) (as:List An):AC:=(annC p.body 0 as).1
section
variable {α:Type} {n:Nat}
theorem popZ_er {X:List PO}: ∀ {as:List An} {K:List An→List AO×α},(∀l,AO.er (K l).1=X)→AO.er (popZ n as K).1=X
 | [],K,h=>h _
 | .l _ _::_,K,h=>h _
 | .h _::_,K,h=>h _
 | .c _ _::_,K,h=>h _
 | .e _ _::_,K,h=>h _
 | .z m i::as,K,h=>by
  unfold popZ
  split
  ·exact popZ_er (as:=as) h
  ·exact h _
 | .y m i j::as,K,h=>by
  unfold popZ
  split
  ·exact popZ_er (as:=as) h
  ·exact h _
 | .n _ _::_,K,h=>h _
 | .p _ _::_,K,h=>h _
 | .b m i j::as,K,h=>by
  unfold popZ
  split
  ·exact popZ_er (as:=as) h
  ·exact h _
 | .w m i j::as,K,h=>by
  unfold popZ
  split
  ·exact popZ_er (as:=as) h
  ·exact h _
 | .g _ _::_,K,h=>h _
 | .u m i::as,K,h=>by
  unfold popZ
  split
  ·exact popZ_er (as:=as) h
  ·exact h _
theorem popE_P {P:α→Prop}: ∀ {as:List An} {K:Code→List An→α},(∀c l,P (K c l))→P (popE n as K):=by
 intro as K h
 unfold popE
 split
 ·split
  ·exact h _ _
  ·exact h _ _
 ·exact h _ _
theorem popG_P {P:α→Prop} {as:List An} {K:Wr→List An→α} (h: ∀c l,P (K c l)):P (popG n as K):=by
 unfold popG
 split
 ·split
  ·exact h _ _
  ·exact h _ _
 ·split
  ·exact h _ _
  ·exact h _ _
 ·exact h _ _
theorem popC_P {P:α→Prop} {as:List An} {K:Option (List (Ex×ShapeK))×Wr→List An→α} (h: ∀c l,P (K c l)):P (popC n as K):=by
 unfold popC
 split
 ·split
  ·exact popG_P fun _ _=>h _ _
  ·exact h _ _
 ·exact popG_P fun _ _=>h _ _
theorem wrapC_er {w:Option (List (Ex×ShapeK))×Wr} {a:AC}:(wrapC w a).er=a.er:=by
 rcases w with ⟨_ | _,_ | _ | _⟩<;>rfl
theorem annP_P {o:PO} {as:List An} {K:AO→List An→α} {P:α→Prop} (h: ∀a l,AO.er [a]= [slimO o]→P (K a l)):P (annP o n as K):=by
 unfold annP
 split
 ·split
  ·exact h _ _ rfl
  ·exact h _ _ rfl
 ·exact popE_P fun c l=>h _ _ rfl
 ·split
  ·exact h _ _ rfl
  ·exact h _ _ rfl
 ·exact popE_P fun c l=>h _ _ rfl
theorem AO.er_cons {a:AO} {x:List AO} {o:PO} (h:AO.er [a]= [o]):AO.er (a::x)=o::AO.er x:=by
 cases a<;>simp only [AO.er] at h ⊢ <;> first | (cases h;rfl) | (cases h;done)
theorem mk3_er {e:Code} {o1 o2 o3:PO} {a:AO} {x:List AO} (h:mk3 e o1 o2 o3=some a):AO.er (a::x)=slimO o1::slimO o2::slimO o3::AO.er x:=by
 unfold mk3 at h
 split at h
 ·split at h
  ·rename_i hc
   simp only [Bool.and_eq_true] at hc
   cases h
   obtain rfl:=Nat.eq_of_beq_eq_true hc.1
   obtain rfl:=Nat.eq_of_beq_eq_true hc.2
   rfl
  ·cases h
 ·cases h
theorem annO_er: ∀ {os:List PO} {n:Nat} {as:List An},AO.er (annO os n as).1=os.map slimO
 | [],n,as=>by
  unfold annO
  exact popZ_er fun l=>rfl
 | [o],n,as=>by
  unfold annO
  refine popZ_er fun l=>annP_P (P:=fun r:List AO×(Nat×List An)=>AO.er r.1= [o].map slimO) fun a l h=> ?_
  show AO.er (a::(annO [] (n+1) l).1)=_
  rw [AO.er_cons h,annO_er]
  rfl
 | [o,o2],n,as=>by
  unfold annO
  refine popZ_er fun l=>annP_P (P:=fun r:List AO×(Nat×List An)=>AO.er r.1= [o,o2].map slimO) fun a l h=> ?_
  show AO.er (a::(annO [o2] (n+1) l).1)=_
  rw [AO.er_cons h,annO_er]
  rfl
 | o::o2::o3::os,n,as=>by
  have dflt: ∀l,AO.er (annP o n l fun a as=>(match annO (o2::o3::os) (n+1) as with | (x,r)=>(a::x,r))).1=(o::o2::o3::os).map slimO:=fun l=>annP_P (P:=fun r:List AO×(Nat×List An)=>AO.er r.1=(o::o2::o3::os).map slimO) fun a l h=>by
   show AO.er (a::(annO (o2::o3::os) (n+1) l).1)=_
   rw [AO.er_cons h,annO_er]
   rfl
  unfold annO
  refine popZ_er fun l=> ?_
  split
  ·split
   ·rename_i hm
    show AO.er (_::(annO _ _ _).1)=_
    rw [mk3_er hm,annO_er]
    rfl
   ·exact dflt l
  ·exact dflt l
theorem annD_er: ∀ {os:List PO} {n:Nat} {as:List An},(annD os n as).1.map AOD.er=os
 | [],n,as=>rfl
 | o::os,n,as=>popE_P (P:=fun r:List AOD×(Nat×List An)=>r.1.map AOD.er=o::os) fun c l=>by
  show AOD.er _::(annD os (n+1) l).1.map AOD.er=_
  rw [annD_er]
  rfl
theorem annC_er: ∀ {c:PC} {n:Nat} {as:List An},(annC c n as).1.er=slim c
 | .skip,n,as=>rfl
 | .ret,n,as=>rfl
 | .exit j,n,as=>rfl
 | .region false k ops,n,as=>popC_P (P:=fun r:AC×(Nat×List An)=>r.1.er=slim (.region false k ops)) fun w l=>by
  show (wrapC w (.reg k (annO ops (n+1) l).1)).er=_
  rw [wrapC_er]
  simp only [AC.er,annO_er,slim]
 | .region true k ops,n,as=>popC_P (P:=fun r:AC×(Nat×List An)=>r.1.er=slim (.region true k ops)) fun w l=>by
  show (wrapC w (.regd k (annD ops (n+1) l).1)).er=_
  rw [wrapC_er]
  simp only [AC.er,annD_er,slim]
 | .seq a b,n,as=>popC_P (P:=fun r:AC×(Nat×List An)=>r.1.er=slim (.seq a b)) fun w l=>by
  show (wrapC w (.seq (annC a (n+1) l).1 (annC b _ _).1)).er=_
  rw [wrapC_er]
  simp only [AC.er,annC_er,slim]
 | .cond c a b,n,as=>popC_P (P:=fun r:AC×(Nat×List An)=>r.1.er=slim (.cond c a b)) fun w l=>by
  show (wrapC w (.cond c (annC a (n+1) l).1 (annC b _ _).1)).er=_
  rw [wrapC_er]
  simp only [AC.er,annC_er,slim]
 | .block j a,n,as=>popC_P (P:=fun r:AC×(Nat×List An)=>r.1.er=slim (.block j a)) fun w l=>by
  show (wrapC w (.block j (annC a (n+1) l).1)).er=_
  rw [wrapC_er]
  simp only [AC.er,annC_er,slim]
 | .loop a,n,as=>popC_P (P:=fun r:AC×(Nat×List An)=>r.1.er=slim (.loop a)) fun w l=>by
  dsimp only
  split
  ·rw [wrapC_er]
   simp only [AC.er,annC_er,slim]
  ·rw [wrapC_er]
   simp only [AC.er,annC_er,slim]
end
theorem annF_er {p:PF} {as:List An} (h:p.body=slim p.body):p.body=(annF p as).er:=h.trans annC_er.symm
theorem slim_slim: ∀ {c:PC},slim (slim c)=slim c
 | .skip=>rfl
 | .ret=>rfl
 | .exit _=>rfl
 | .region false k ops=>by simp only [slim,List.map_map];rfl
 | .region true k ops=>rfl
 | .seq a b=>by simp only [slim,slim_slim]
 | .cond c a b=>by simp only [slim,slim_slim]
 | .block j a=>by simp only [slim,slim_slim]
 | .loop a=>by simp only [slim,slim_slim]
end Go.Pi
namespace Go.Pi
set_option linter.unusedVariables false
section
variable {S:Nat→Type} [Sg:Sig S] {ρ ρ':Rho} {H H':Heap} {fr:Fr} {b N:Nat} {t:TS S} {s g:St} {α:Type} {pr:Prog}
theorem RelR.pad {m:Nat} {args:List D} (h:RelR fr b m ρ t ⟨args,H⟩) (k:Nat):RelR fr b (args.length+k) ρ t ⟨args++List.replicate k .undef,H⟩:=by
 refine ⟨by simp,fun i v hv=> ?_,h.hp,h.inj,h.liv,h.nxt,h.frm,h.avl⟩
 have:=h.sl i v hv
 have e:(args++List.replicate k D.undef).getD i .undef=args.getD i .undef:=by
  rw [List.getD_eq_getElem?_getD,List.getD_eq_getElem?_getD]
  rcases Nat.lt_or_ge i args.length with q | q
  ·rw [List.getElem?_append_left q]
  ·rw [List.getElem?_append_right q,List.getElem?_eq_none q]
   rw [List.getElem?_replicate]
   split<;>rfl
 show VS ρ H v ((args++List.replicate k D.undef).getD i .undef)
 rw [e]
 exact this
def okV:Val S→Bool
 | .undef=>false
 | .tup _=>false
 | .agg _=>false
 | .one _ c _ => !isAgg c&&Nat.beq (W (S:=S) c) 1
 | _=>true
theorem okV_ok {v:Val S} {ds:List D} (hv:okV v=true) (h:VC ρ H v ds): ∃d,ds= [d]∧VS ρ H v d∧tupD d=false:=by
 cases v with
 | undef=>cases hv
 | tup _=>cases hv
 | agg _=>cases hv
 | one n c x=>
  simp only [okV,Bool.and_eq_true,Bool.not_eq_true'] at hv
  have hl:ds.length=1:=by
   have h':All2 (Cl H n) (en c x) ds:=h
   have:=Nat.eq_of_beq_eq_true hv.2
   rw [← h'.len,encs_len];exact this
  match ds,hl,h with
  | [d],_,h=>
   refine ⟨d,rfl,by simp only [VS,VSx,hv.1];exact h,?_⟩
   have h:All2 (Cl H n) (en c x) [d]:=h
   match hq:en c x,h with
   | [a],h=>
    have:=cl_one (en_cell c x a (by rw [hq];simp)) h.1
    cases d<;>first | rfl | cases this
 | fp n c x j=>
  obtain ⟨d,rfl,h⟩:=h
  refine ⟨d,rfl,h,?_⟩
  obtain ⟨r,h⟩:=h
  have:=fp_one h
  cases d<;>first | rfl | cases this
 | whole o p=>obtain ⟨d,rfl,h⟩:=h;refine ⟨d,rfl,h,?_⟩;rcases h with ⟨_,_,_,_,_,rfl⟩ | ⟨_,rfl⟩<;>rfl
 | win o p off len=>obtain ⟨d,rfl,h⟩:=h;refine ⟨d,rfl,h,?_⟩;rcases h with ⟨_,_,_,_,_,_,rfl⟩ | ⟨_,_,_,rfl⟩<;>rfl
 | ptr o p i j=>obtain ⟨d,rfl,h⟩:=h;refine ⟨d,rfl,h,?_⟩;obtain ⟨_,_,_,_,_,_,rfl⟩:=h;rfl
 | pa o j z len=>obtain ⟨d,rfl,h⟩:=h;refine ⟨d,rfl,h,?_⟩;obtain ⟨_,_,_,_,_,_,_,rfl⟩:=h;rfl
 | _=>obtain ⟨d,rfl,h⟩:=h;refine ⟨d,rfl,h,?_⟩;cases h;rfl
def slR (t:TS S) (r:PR):Option (Val S):=match resT t r with
 | some (true,vs)=>some (.agg vs)
 | some (false,[v])=>(match okV v with
  | true=>some v
  | false=>none)
 | _=>none
theorem slR_ok (h:RelR fr b N ρ t g) {r:PR} {v:Val S} (hr:slR t r=some v): ∃d,res1 g r=some d∧VS ρ g.hp v d∧tupD d=false:=by
 unfold slR at hr
 split at hr
 ·rename_i vs q
  cases hr
  obtain ⟨d,ds,k1,k2,k3,_⟩:=resT_ok h q
  obtain rfl:=k3 rfl
  exact ⟨_,k1,⟨ds,rfl,k2⟩,rfl⟩
 ·rename_i w q
  split at hr
  ·rename_i hw
   cases hr
   obtain ⟨d,ds,k1,k2,_,k4⟩:=resT_ok h q
   obtain rfl:=k4 rfl
   obtain ⟨a,b',e,q1,q2⟩:=k2
   have q2:b'= []:=q2
   subst q2
   rw [List.append_nil] at e
   subst e
   obtain ⟨d',e,k5,k6⟩:=okV_ok hw q1
   cases e
   exact ⟨d,k1,k5,k6⟩
  ·cases hr
 ·cases hr
def slRs (t:TS S):List PR→Option (List (Val S))
 | []=>some []
 | r::rs=>match slR t r with
  | some v=>(match slRs t rs with
   | some vs=>some (v::vs)
   | none=>none)
  | none=>none
theorem slRs_ok (h:RelR fr b N ρ t g): ∀ {rs:List PR} {vs:List (Val S)},slRs t rs=some vs→ ∃ds,resL g rs=some ds∧All2 (VS ρ g.hp) vs ds∧(∀d∈ds,tupD d=false)∧ds.length=rs.length
 | [],_,e=>by cases e;exact ⟨[],rfl,trivial,by simp,rfl⟩
 | r::rs,vs,e=>by
  simp only [slRs] at e
  split at e
  ·rename_i v hv
   split at e
   ·rename_i us hu
    cases e
    obtain ⟨d,k1,k2,k3⟩:=slR_ok h hv
    obtain ⟨ds,k4,k5,k6,k7⟩:=slRs_ok h hu
    refine ⟨d::ds,by simp only [resL,k1,k4,Option.bind_some,Option.map_some],⟨k2,k5⟩,fun x hx=> ?_,by simp [k7]⟩
    rcases List.mem_cons.mp hx with rfl | hx
    ·exact k3
    ·exact k6 x hx
   ·cases e
  ·cases e
def endH (sO:ShapeK) (rs:List PR) (ex:Ex) (t:TS S):Option (Flds S sO.cs):=match ex with
 | .exit _=>none
 | _=>(match slRs t rs with
  | some vs=>closeSh sO { t with sl:=enumV 0 vs,av:= [] }
  | none=>none)
def bodyH (Γ:List (Entry S pr)) (N k:Nat) (c:AC) (sI sO:ShapeK) (rs:List PR) (p:Flds S sI.cs):Option (Flds S sO.cs):=run Γ N k c (openSh sI p) (endH sO rs)
theorem HOk.of {f:Nat} {pf:PF} {Γ:List (Entry S pr)} {k:Nat} {c:AC} {sI sO:ShapeK} (hf:pr f=some pf) (ho:pf.orc=none) (hb:pf.body=c.er) (hN:Nat.ble sI.sl.length pf.ntmps=true) (hO:Nat.beq sO.sl.length pf.results.length=true) :
  HOk pr f sI sO (bodyH Γ pf.ntmps k c sI sO pf.results):=by
 intro p r hr fr ρ args H hl h
 refine Runs.body hf ho ?_
 have hN:=Nat.le_of_ble_eq_true hN
 have hO:=Nat.eq_of_beq_eq_true hO
 rw [hb]
 have h0:=h.pad (pf.ntmps-args.length)
 rw [show args.length+(pf.ntmps-args.length)=pf.ntmps by omega] at h0
 refine (run_ok c hr h0).mono ?_
 rintro ex s ⟨t',k1,g,ρ1,k2,k3⟩
 have key:endH sO pf.results .normal t'=some r→ ∃d,resV s pf.results=some d∧tupD d=tpN sO.sl.length∧ ∃g' ρ',GhK ⟨comps d,s.hp⟩ g'∧RelR fr 0 sO.sl.length ρ' (openSh sO r) g':=fun q=>by
  simp only [endH] at q
  split at q
  ·rename_i vs hvs
   obtain ⟨ds,a1,a2,a3,a4⟩:=slRs_ok k3 hvs
   have a1':=resL_gh k2 a1
   have h4:RelR fr 0 ds.length ρ1 { t' with sl:=enumV 0 vs,av:= [] } ⟨ds,g.hp⟩:=by
    refine ⟨rfl,fun i v hv=> ?_,k3.hp,k3.inj,k3.liv,k3.nxt,k3.frm,List.nodup_nil,fun _ hr=>nomatch hr⟩
    obtain ⟨j,e,hj⟩:=look_enumV hv
    rw [Nat.zero_add] at e
    subst e
    obtain ⟨d,h2,h3⟩:=a2.get hj
    show VS ρ1 g.hp v (ds.getD i .undef)
    rw [List.getD_eq_getElem?_getD,h2]
    exact h3
   obtain ⟨ρ',h5⟩:=h4.closeSh q
   rw [a4, ← hO] at h5
   have fin: ∀d,comps d=ds→tupD d=tpN sO.sl.length→resV s pf.results=some d→ ∃d,resV s pf.results=some d∧tupD d=tpN sO.sl.length∧ ∃g' ρ',GhK ⟨comps d,s.hp⟩ g'∧RelR fr 0 sO.sl.length ρ' (openSh sO r) g':=
    fun d q1 q2 q3=>⟨d,q3,q2,⟨ds,g.hp⟩,ρ',⟨q1,k2.hp⟩,h5⟩
   have hn:sO.sl.length=ds.length:=by rw [hO,a4]
   match ds,a1',a3,hn,fin with
   | [],a1',a3,hn,fin=>exact fin (.tup []) rfl (by rw [hn];rfl) (by simp only [resV,a1',Option.map_some])
   | [d],a1',a3,hn,fin=>
    have hnt:=a3 d (by simp)
    exact fin d (by cases d<;>first | rfl | cases hnt) (by rw [hn];exact hnt) (by simp only [resV,a1',Option.map_some])
   | d::d2::ds,a1',a3,hn,fin=>exact fin (.tup (d::d2::ds)) rfl (by rw [hn];rfl) (by simp only [resV,a1',Option.map_some])
  ·cases q
 cases ex with
 | exit i=>cases k1
 | normal=>exact ⟨fun _ e=>(by cases e),key k1⟩
 | ret=>exact ⟨fun _ e=>(by cases e),key k1⟩
end
end Go.Pi
namespace Go.Pi
set_option linter.unusedVariables false
def progU (nq:Nat→Bool) (P0:Prog):Prog:=fun f=>(P0 f).map fun p=>slimF (undrawF nq p)
def PF0:PF:=⟨0,[],.skip,none⟩
def getPF (P:Prog) (f:Nat):PF:=(P f).getD PF0
def okPF (P:Prog) (f n:Nat):Bool:=match P f with
 | some pf=>(match pf.orc with
  | none=>Nat.ble n pf.ntmps
  | some _=>false)
 | none=>false
def okPR (P:Prog) (f n:Nat):Bool:=match P f with
 | some pf=>Nat.beq n pf.results.length
 | none=>false
section
variable {S:Nat→Type} [Sg:Sig S] {pr:Prog} {f:Nat}
abbrev enP {ps:List PK} {rs:List RK} {F:Flds S (pcs ps)→Option (Flds S (rcs rs))} (h:FOk pr f ps rs F):Entry S pr:= .plain ⟨f,_,_,_,h⟩
abbrev enL {c:Code} {ps:List PK} {rs:List RK} {F:T S c×Flds S (pcs ps)→Option (T S c×Flds S (rcs rs))} (h:LOk pr f c ps rs F):Entry S pr:= .lent ⟨f,_,_,_,_,h⟩
abbrev enH {sI sO:ShapeK} {F:Flds S sI.cs→Option (Flds S sO.cs)} (h:HOk pr f sI sO F):Entry S pr:= .heap ⟨f,_,_,_,h⟩
end
section
variable {S:Nat→Type} [Sg:Sig S] {nq:Nat→Bool} {P0:Prog} {f k:Nat}
theorem okPF_ok {n:Nat} (h:okPF (progU nq P0) f n=true):progU nq P0 f=some (getPF (progU nq P0) f)∧(getPF (progU nq P0) f).orc=none∧Nat.ble n (getPF (progU nq P0) f).ntmps=true∧(getPF (progU nq P0) f).body=slim (getPF (progU nq P0) f).body:=by
 unfold okPF at h
 split at h
 ·rename_i pf hf
  have e:getPF (progU nq P0) f=pf:=by unfold getPF;rw [hf];rfl
  rw [e]
  split at h
  ·rename_i ho
   refine ⟨hf,ho,h,?_⟩
   unfold progU at hf
   obtain ⟨p,_,h2⟩:=Option.map_eq_some_iff.1 hf
   rw [← h2]
   exact slim_slim.symm
  ·cases h
 ·cases h
theorem FOk.mk {ps:List PK} {ks:List RK} {F':Flds S (pcs ps)→Option (Flds S (rcs ks))} (as:List An) (Γ:List (Entry S (progU nq P0))) (h:okPF (progU nq P0) f ps.length=true)
  (he: ∀p,bodyF Γ (getPF (progU nq P0) f).ntmps k (annF (getPF (progU nq P0) f) as) ps ks (getPF (progU nq P0) f).results p=F' p):FOk (progU nq P0) f ps ks F':=by
 obtain ⟨h1,h2,h3,h4⟩:=okPF_ok h
 exact funext he▸FOk.of h1 h2 (annF_er h4) h3
theorem LOk.mk {c:Code} {ps:List PK} {ks:List RK} {F':T S c×Flds S (pcs ps)→Option (T S c×Flds S (rcs ks))} (as:List An) (Γ:List (Entry S (progU nq P0))) (h:okPF (progU nq P0) f (ps.length+1)=true) (hW:Nat.blt 0 (W (S:=S) c)=true)
  (he: ∀p,bodyL Γ (getPF (progU nq P0) f).ntmps k (annF (getPF (progU nq P0) f) as) c ps ks (getPF (progU nq P0) f).results p=F' p):LOk (progU nq P0) f c ps ks F':=by
 obtain ⟨h1,h2,h3,h4⟩:=okPF_ok h
 exact funext he▸LOk.of h1 h2 (annF_er h4) h3 hW
theorem HOk.mk {sI sO:ShapeK} {F':Flds S sI.cs→Option (Flds S sO.cs)} (as:List An) (Γ:List (Entry S (progU nq P0))) (h:okPF (progU nq P0) f sI.sl.length=true) (hO:okPR (progU nq P0) f sO.sl.length=true)
  (he: ∀p,bodyH Γ (getPF (progU nq P0) f).ntmps k (annF (getPF (progU nq P0) f) as) sI sO (getPF (progU nq P0) f).results p=F' p):HOk (progU nq P0) f sI sO F':=by
 obtain ⟨h1,h2,h3,h4⟩:=okPF_ok h
 have h5:Nat.beq sO.sl.length (getPF (progU nq P0) f).results.length=true:=by
  unfold okPR at hO
  rw [h1] at hO
  exact hO
 exact funext he▸HOk.of h1 h2 (annF_er h4) h3 h5
end
end Go.Pi
