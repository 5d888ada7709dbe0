import Derived.Test.YtmfccopfmddllaaGreatLC
import Derived.Test.YtmfccopfmddllaaGreatPiW
set_option linter.all false
namespace Go.Pi
set_option linter.unusedVariables false
def qp:D→Option Nat
 | .ref id _ _=>some id
 | .ptr id _=>some id
 | _=>none
def spO:POp→Option (Nat×List PX)
 | .load _ _ x=>some (0,[x])
 | .indexAddr _ x _=>some (0,[x])
 | .slice _ x _ _=>some (0,[x])
 | .alloc _=>some (1,[])
 | .buildSlice _ _ _ _=>some (1,[])
 | .makeSlice _ _ _ _ _=>some (1,[])
 | .store _ a _=>some (2,[a])
 | _=>none
theorem Je {call:zy}{ρ:PX→D}{r:Nat}{op:POp}{H:zf}{out:Out}{k:Nat}{xs:List PX}(hs:spO op=some (k,xs))(h:(opE call ρ r op).run H=some out) :
  (∀id∈(opE call ρ r op).rd H, ∃x∈xs,qp (ρ x)=some id) ∧
  (∀id∈(opE call ρ r op).lv H,(id=r∧k=1) ∨ ∃x∈xs,qp (ρ x)=some id∧ ∃sz es,hat H id= .row sz es true) ∧
  (∀w∈out.ws,(w.1=r∧k=1) ∨ ∃x∈xs,qp (ρ x)=some w.1∧ ∃sz es,hat H w.1= .row sz es true)∧out.fz= []∧(k=0→out.ws= []):=by
 have qO: ∀ {d:Option D} {out:Out},(zZ d).run H=some out→out.ws= []∧out.fz= []∧(zZ d).rd H= []∧(zZ d).lv H= []:=by
  intro d out h
  cases d with
  | none=>cases h
  | some d=>cases h;exact ⟨rfl,rfl,rfl,rfl⟩
 cases op<;>cases hs
 case load ag n x=>
  simp only [opE] at h ⊢
  cases hx:ρ x with
  | ptr id off=>
   simp only [hx,Eff.run] at h;split at h
   ·rename_i sz es lv hh;simp only [hx,Eff.rd,Eff.lv,hh]
    cases he:es[off / sz]? with
    | none=>rw [he] at h;cases h
    | some e=>
     rw [he] at h;simp only at h
     split at h
     ·obtain ⟨a1,a2,a3,a4⟩:=qO h
      rename_i hc;simp only [hc,if_true,a3,a4,a1,a2];exact ⟨fun j hj=>⟨x,by simp,by simp at hj;subst hj;rw [hx];rfl⟩,by simp,by simp,trivial,fun _=>trivial⟩
     ·cases h
   ·cases h
  | fptr cs=>
   simp only [hx] at h ⊢
   split at h
   ·rename_i hc;obtain ⟨a1,a2,a3,a4⟩:=qO h
    simp only [hc,if_true,a3,a4,a1,a2];exact ⟨by simp,by simp,by simp,trivial,fun _=>trivial⟩
   ·cases h
  | _=>simp only [hx] at h;cases h
 case slice sz x lo hi=>
  simp only [opE] at h ⊢
  cases hx:ρ x with
  | nil=>
   rw [hx] at h;obtain ⟨a1,a2,a3,a4⟩:=qO h
   simp only [a3,a4,a1,a2];exact ⟨by simp,by simp,by simp,trivial,fun _=>trivial⟩
  | lst s es=>
   simp only [hx] at h ⊢
   split at h
   ·rename_i hc;obtain ⟨a1,a2,a3,a4⟩:=qO h
    simp only [if_pos hc,a3,a4,a1,a2];exact ⟨by simp,by simp,by simp,trivial,fun _=>trivial⟩
   ·cases h
  | ref id off len=>
   simp only [hx,Eff.run] at h;split at h
   ·rename_i s es lv hh;simp only [Eff.rd,Eff.lv,hh];split at h
    ·rename_i hc;obtain ⟨a1,a2,a3,a4⟩:=qO h
     simp only [if_pos hc,a3,a4,a1,a2];exact ⟨fun j hj=>⟨x,by simp,by simp at hj;subst hj;rw [hx];rfl⟩,by simp,by simp,trivial,fun _=>trivial⟩
    ·cases h
   ·cases h
  | _=>simp only [hx] at h;cases h
 case indexAddr sz x i=>
  simp only [opE] at h ⊢
  cases hi:ρ i with
  | int k z=>
   simp only [hi] at h ⊢
   cases hx:ρ x with
   | ref id off len=>
    simp only [hx,Eff.run] at h;split at h
    ·rename_i sz' es lv hh;simp only [hx,Eff.rd,Eff.lv,hh];split at h
     ·rename_i hc
      cases h;simp only [hc,if_true];exact ⟨fun j hj=>⟨x,by simp,by simp [quiet,Eff.rd] at hj;subst hj;rw [hx];rfl⟩,by simp [quiet,Eff.lv],by simp,by simp,by simp⟩
     ·cases h
    ·cases h
   | lst s es=>
    simp only [hx] at h ⊢
    split at h
    ·rename_i hc;simp only [hc,if_true]
     cases he:es[z.toNat]? with
     | none=>rw [he] at h;cases h
     | some e=>rw [he] at h;cases h;exact ⟨by simp [quiet,Eff.rd],by simp [quiet,Eff.lv],by simp,by simp,by simp⟩
    ·cases h
   | _=>simp only [hx] at h;cases h
  | _=>simp only [hi] at h;cases h
 case alloc z=>
  simp only [opE,Eff.run] at h;split at h
  ·split at h
   ·cases h;simp only [opE,Eff.rd,Eff.lv];exact ⟨by simp,fun id hid=> .inl ⟨by simpa using hid,by first | rfl | trivial⟩,fun w hw=> .inl ⟨by simp at hw;rw [hw],by first | rfl | trivial⟩,by first | rfl | trivial,by simp⟩
   ·cases h
  ·cases h
 case buildSlice sz n z ps=>
  simp only [opE] at h ⊢
  split at h
  ·rename_i hc;rw [if_pos hc];split at h
   ·rename_i es he;try simp only [he]
    simp only [Eff.run] at h;split at h
    ·split at h
     ·cases h;simp only [Eff.rd,Eff.lv];exact ⟨by simp,fun id hid=> .inl ⟨by simpa using hid,by first | rfl | trivial⟩,fun w hw=> .inl ⟨by simp at hw;rw [hw],by first | rfl | trivial⟩,by first | rfl | trivial,by simp⟩
     ·cases h
    ·cases h
   ·cases h
  ·cases h
 case makeSlice sz by' z l c=>
  simp only [opE] at h ⊢
  split at h
  ·split at h
   ·rename_i hc;rw [if_pos hc];simp only [Eff.run] at h;split at h
    ·split at h
     ·cases h;simp only [Eff.rd,Eff.lv];exact ⟨by simp,fun id hid=> .inl ⟨by simpa using hid,by first | rfl | trivial⟩,fun w hw=> .inl ⟨by simp at hw;rw [hw],by first | rfl | trivial⟩,by first | rfl | trivial,by simp⟩
     ·cases h
    ·cases h
   ·cases h
  ·cases h
 case store n a x=>
  simp only [opE] at h ⊢
  cases hx:ρ a with
  | ptr id off=>
   simp only [hx,Eff.run] at h;split at h
   ·rename_i sz es hh;rw [hh] at h;simp only at h
    simp only [hx,Eff.rd,Eff.lv,hh]
    cases he:es[off / sz]? with
    | none=>rw [he] at h;cases h
    | some e=>
     rw [he] at h;simp only at h
     split at h
     ·rename_i hc
      cases h;simp only [];rw [if_pos hc];simp only [Eff.rd,Eff.lv];have hr: ∃y ∈ [a],qp (ρ y)=some id:=⟨a,by simp,by rw [hx];rfl⟩
      refine ⟨fun j hj=> ?_,fun j hj=> .inr ?_,fun w hw=> .inr ?_,by simp,fun e=>nomatch e⟩
      ·simp at hj;subst hj;exact hr
      ·simp at hj;subst hj;exact ⟨a,by simp,by rw [hx];rfl,_,_,hh⟩
      ·simp at hw;subst hw;exact ⟨a,by simp,by rw [hx];rfl,_,_,hh⟩
     ·cases h
   ·cases h
  | _=>simp only [hx] at h;cases h
section
variable {S:Nat→Type} [Sg:Sig S] {ρ ρ':Rho} {H H':zf} {fr:Fr} {b N:Nat} {t:TS S} {s g:St} {α:Type} {pr:yn}
def zdm:Val S→Option (List Nat)
 | .whole o _=>some [o]
 | .win o _ _ _=>some [o]
 | .ptr o _ _ _=>some [o]
 | .pa o _ _ _=>some [o]
 | .one _ _ _=>some []
 | .fp _ _ _ _=>some []
 | .nil=>some []
 | _=>none
def Tch (ρ:Rho)(os:List Nat)(id:Nat):Prop:= ∃o∈os, ∃p,ρ o p=some (some id)
theorem Tch.up {os os':List Nat}(h: ∀o∈os,o∈os')(hm: ∀o p x,ρ o p=some x→ρ' o p=some x){id:Nat}:Tch ρ os id→Tch ρ' os' id:=fun ⟨o,h1,p,h2⟩=>⟨o,h o h1,p,hm _ _ _ h2⟩
theorem zfE {n:Nat}{v d:D}{id:Nat}(h:Cl H n v d)(hr:qp d=some id):dead H id:=by
 obtain ⟨z,h1,_,h3⟩:=h.frz
 cases n with
 | zero=>exact h.elim
 | succ n=>
  cases d with
  | ref i off len=>
   cases hr;simp only [frz,Eff.run] at h1;split at h1
   ·split at h1
    ·rw [ze,Option.bind_eq_some_iff] at h1;obtain ⟨y,_,h1⟩:=h1
     cases h1;exact h3 _ (by simp)
    ·cases h1
   ·cases h1
  | ptr i off=>
   cases hr;simp only [frz,Eff.run] at h1;split at h1
   ·rename_i sz es lv hh
    cases he:es[off / sz]? with
    | none=>rw [he] at h1;cases h1
    | some e=>
     rw [he] at h1;simp only at h1
     rw [ze,Option.bind_eq_some_iff] at h1;obtain ⟨y,_,h1⟩:=h1
     cases h1;exact h3 _ (by simp)
   ·cases h1
  | _=>cases hr
theorem zcU {v:Val S}{d:D}{os:List Nat}{id:Nat}(ho:zdm v=some os)(h:VS ρ H v d)(hr:qp d=some id):dead H id∨Tch ρ os id:=by
 cases v with
 | nil=>
  have:d= .nil:=h
  subst this
  cases hr
 | whole o p=>
  cases ho;rcases h with ⟨id',_,_,h1,_,rfl⟩ | ⟨_,rfl⟩
  ·cases hr;exact .inr ⟨o,by simp,p,h1⟩
  ·cases hr
 | win o p off len=>
  cases ho;rcases h with ⟨id',_,_,h1,_,_,rfl⟩ | ⟨_,_,_,rfl⟩
  ·cases hr;exact .inr ⟨o,by simp,p,h1⟩
  ·cases hr
 | ptr o p i j=>
  cases ho;obtain ⟨id',_,_,h1,_,_,rfl⟩:=h
  cases hr;exact .inr ⟨o,by simp,p,h1⟩
 | pa o j z len=>
  cases ho;obtain ⟨id',_,_,h1,_,_,_,rfl⟩:=h
  cases hr;exact .inr ⟨o,by simp,[],h1⟩
 | one n c x=>
  simp only [VS,VSx] at h;split at h
  ·obtain ⟨ds,rfl,_⟩:=h;cases hr
  ·match hq:en c x,h with
   | [a],h=>exact .inl (zfE h.1 hr)
 | fp n c x j=>
  obtain ⟨r,h⟩:=h
  exact .inl (zfE h hr)
 | _=>cases ho
structure V3 (ρ:Rho) (H:zf) (wo ro:List Nat) (f:Fp):Prop where
 all:f.all=false
 rd: ∀id∈f.rd,dead H id∨Tch ρ (wo++ro) id
 fz: ∀id∈f.fz,dead H id∨Tch ρ wo id
 lv: ∀id∈f.lv,Tch ρ (wo++ro) id
 wr: ∀id∈f.wr,Tch ρ wo id
theorem qd (h:HLe H H'){id:Nat}:dead H id→dead H' id:=fun ⟨sz,es,q⟩=>⟨sz,es,h _ _ _ q⟩
def ZN (xs ys:List Nat):Bool:=xs.all fun x => !ys.contains x
theorem yb {xs ys:List Nat}(h: ∀id∈xs,id ∉ ys):meets xs ys=false:=by
 unfold meets;rw [List.any_eq_false];intro x hx;simpa using h x hx
end
structure AOD where
 dst:Option Nat
 op:POp
 gu:Option (Nat×Bool)
 aft:List Nat
 res:Nat
 cd:Code
def AOD.er (o:AOD):PO:=⟨o.dst,o.op,o.gu,o.aft,o.res⟩
section
variable {S:Nat→Type} [Sg:Sig S] {ρ ρ':Rho} {H H':zf} {fr:Fr} {b N:Nat} {t:TS S} {s g:St} {α:Type} {pr:yn}
def zdk (dst:Option Nat)(res:Nat)(cd:Code)(op:POp)(t:TS S)(K:TS S→Option α):Option α:=match yK t op with
 | some v=>K (t.putD dst v)
 | none=>match op with
  | .pick c x y=>Ua dst c x y t K
  | .bin o x y=>zcl dst o x y t K
  | .alloc z=>J4 dst res z t K
  | .buildSlice sz n z ps=>(match zW cd with
   | true=>none
   | false=>Qr dst res cd sz n z ps t K)
  | .load ag n x=>(match evK t x with
   | some (.pa _ _ _ _)=>J2 dst ag n x t K
   | _=>Uc dst ag n x t K)
  | .store n a x=>(match dst with
   | none=>(match evK t a,zW cd with
    | some (.pa _ _ _ _),_=>Qn n a x t K
    | _,true=>none
    | _,false=>J0 n a x t K)
   | some _=>none)
  | .indexAddr sz x i=>J3 dst sz x i t K
  | .indexAddrA sz len x i=>Ue dst sz len x i t K
  | .index ag sz len x i=>Ud dst ag sz len x i t K
  | .indexS x i=>Qp dst x i t K
  | .len x=>zck dst x t K
  | .sliceS x lo hi=>Qo dst x lo hi t K
  | .slice sz x lo hi=>J1 dst sz x lo hi t K
  | .makeSlice sz by' z l c=>Ub dst res cd sz by' z l c t K
  | .bits x=>Uf dst x t K
  | _=>none
theorem zdH {op:POp}{v:Val S}(h:yK t op=some v):zcp op=false:=by
 cases op<;>first | rfl | (simp [yK] at h)
theorem zhh (h:zc fr b N ρ t g){dst:Option Nat}(hd:yk N dst=true){res:Nat}{cd:Code}{op:POp}{K:TS S→Option α}{r:α}(hr:zdk dst res cd op t K=some r):zV ρ t.nx fr b N g op res dst (fun t'=>K t'=some r):=by
 unfold zdk at hr;split at hr
 ·rename_i v hv;intro call;obtain ⟨d,k1,k2⟩:=zay h hv call (b+res)
  exact ⟨⟨d,[],[]⟩,ρ,_,k1,h.putD hd k2,⟨fun _ _ _ h=>h,fun _ _ _ h=>h,fun e=>by rw [zdH hv] at e;cases e⟩,hr⟩
 ·split at hr
  ·exact VA h hd hr
  ·exact zaD h hd hr
  ·exact X4 h hd hr
  ·split at hr
   ·cases hr
   ·exact JB h hd hr
  ·split at hr
   ·exact X2 h hd hr
   ·exact VD h hd hr
  ·split at hr
   ·split at hr
    ·exact Jy h hr
    ·cases hr
    ·exact XZ h hr
   ·cases hr
  ·exact X3 h hd hr
  ·exact VF h hd hr
  ·exact VE h hd hr
  ·exact JA h hd hr
  ·exact zaC h hd hr
  ·exact Jz h hd hr
  ·exact X0 h hd hr
  ·exact VB h hd hr
  ·exact VG h hd hr
  ·cases hr
inductive Tg where
 | q
 | s (wo ro:List Nat)
 | n (o:Nat)
def zco (t:TS S):List PX→Option (List Nat)
 | []=>some []
 | x::xs=>match evK t x with
  | some v=>(match zdm v,zco t xs with
   | some os,some os'=>some (os++os')
   | _,_=>none)
  | none=>none
theorem zaF (h:zc fr b N ρ t g): ∀ {xs:List PX} {os:List Nat},zco t xs=some os→ ∀x∈xs, ∀id,qp (x.ev g.ts)=some id→dead g.hp id∨Tch ρ os id
 | [],_,_,x,hx,_,_=>nomatch hx
 | y::xs,os,ho,x,hx,id,hr=>by
  simp only [zco] at ho;split at ho
  ·rename_i v hv;split at ho
   ·rename_i os1 os2 h1 h2
    cases ho;rcases List.mem_cons.mp hx with rfl | hx
    ·exact (zcU h1 (h.ev hv) hr).imp (fun q=>q) (Tch.up (fun o q=>by simp [q]) (fun _ _ _ q=>q))
    ·exact (zaF h h2 x hx id hr).imp (fun q=>q) (Tch.up (fun o q=>by simp [q]) (fun _ _ _ q=>q))
   ·cases ho
  ·cases ho
def zdg (t:TS S)(op:POp):Option Tg:=match Nat.beq (ZK (fun _=>true) op) 0 with
 | true=>some .q
 | false=>(match spO op with
  | some (k,xs)=>(match zco t xs with
   | some os=>(match k with
    | 0=>some (.s [] os)
    | 1=>some (.n t.nx)
    | _=>some (.s os []))
   | none=>none)
  | none=>none)
def zjY:POp→Bool
 | .makeSlice _ _ _ _ _=>true
 | _=>false
def zho:POp→Bool
 | .call _ _=>true
 | .callQ _ _=>true
 | .callV _ _ _=>true
 | .callH _ _=>true
 | _=>false
def ziu (t:TS S)(cd:Code)(op:POp):Option Tg:=match zho op || (zW cd && !zjY op) with
 | true=>none
 | false=>zdg t op
theorem UG {cd:Code}{op:POp}{tg:Tg}(h:ziu t cd op=some tg):zdg t op=some tg:=by
 unfold ziu at h;split at h
 ·cases h
 ·exact h
theorem jN: ∀(ws:List (Nat×Blk)) (H:zf) (j:Nat),(∀x∈ws,x.1≠j)→hat (ye H ws) j=hat H j
 | [],_,_,_=>rfl
 | (i,k)::ws,H,j,h=>by
  show hat (ye (H.set i k) ws) j=_
  rw [jN ws _ j (fun x hx=>h x (by simp [hx]))]
  have hij:i≠j:=h (i,k) (by simp)
  rcases Nat.lt_or_ge i H.length with q | q
  ·rw [zp q,if_neg (Ne.symm hij)]
  ·rw [List.set_eq_of_length_le q]
theorem Vb: ∀(l:List Nat) (H:zf) (j:Nat),hat H j= .dead→hat (qD H l) j= .dead
 | [],_,_,h=>h
 | i::l,H,j,h=>by
  show hat (qD (H.modify i freeze) l) j=_
  refine Vb l _ j ?_
  rw [Ym,h];split<;>rfl
def Dd (H H':zf):Prop:= ∀id,hat H id= .dead→hat H' id= .dead
theorem Dd.refl (H:zf):Dd H H:=fun _ h=>h
theorem Dd.of {o:Out}{G:zf}(hgh:GhH (o.on H) G)(hws: ∀w∈o.ws,hat H w.1 ≠ .dead):Dd H G:=fun id hid=>by
 have h1:hat (ye H o.ws) id= .dead:=by
  rw [jN _ _ _ (fun w hw e=>hws w hw (by rw [e];exact hid)),hid]
 have h2:hat (o.on H) id= .dead:=by
  exact Vb _ _ _ h1
 rcases hgh.2 id with q | ⟨sz,es,q,_⟩ | ⟨sz,es,lv,q,_⟩
 ·rw [q,h2]
 ·rw [h2] at q;cases q
 ·rw [h2] at q;cases q
def HLd (H H':zf):Prop:=HLe H H'∧Dd H H'
def Jp (f:Fp):Prop:=f=⟨[],[],[],[],false⟩
def Top (ρ:Rho)(os:List Nat)(id:Nat):Prop:= ∃o∈os,ρ o []=some (some id)
theorem Top.toT {os:List Nat}{id:Nat}:Top ρ os id→Tch ρ os id:=fun ⟨o,h1,h2⟩=>⟨o,h1,[],h2⟩
structure Xm (ρ:Rho) (H:zf) (wo ro:List Nat) (f:Fp):Prop where
 all:f.all=false
 rd: ∀id∈f.rd,dead H id∨Top ρ wo id∨Tch ρ ro id∨hat H id= .dead
 fz: ∀id∈f.fz,dead H id
 lv: ∀id∈f.lv,Top ρ wo id∨Tch ρ ro id∨hat H id= .dead
 wr: ∀id∈f.wr,Top ρ wo id∨hat H id= .dead
def TgR (ρ:Rho)(H:zf):Tg→Fp→Prop
 | .q,f=>Jp f
 | .s wo ro,f=>V3 ρ H wo ro f
 | .n o,f=>V3 ρ H [o] [] f∧Xm ρ H [o] [] f
theorem ji {c:zy}{dst:Option Nat}{op:POp}{gu:Option (Nat×Bool)}{aft:List Nat}{res:Nat}{out:Out}(hg:zN g.ts gu=true)(hw:zu g.ts gu=true)(h:(opE c (PX.ev g.ts) (b+res) op).run g.hp=some out) :
  zD c b ⟨dst,op,gu,aft,res⟩ g=some ⟨yh g.ts dst out.d,out.on g.hp⟩∧zq c b ⟨dst,op,gu,aft,res⟩ g=⟨(opE c (PX.ev g.ts) (b+res) op).rd g.hp,(opE c (PX.ev g.ts) (b+res) op).lv g.hp,out.ws.map (·.1),out.fz,false⟩:=by
 unfold zD zq;simp only [hg,hw,if_true];split
 ·simp [opE,Eff.run] at h
 ·simp only [h,Option.map_some,and_self]
theorem VH {call:zy}{f:PX→D}{r:Nat}{op:POp}{out:Out}{xs:List PX}(hs:spO op=some (1,xs))(h:(opE call f r op).run H=some out):hat H r= .fresh:=by
 cases op<;>cases hs
 case alloc z=>
  simp only [opE,Eff.run] at h;split at h
  ·split at h
   ·assumption
   ·cases h
  ·cases h
 case makeSlice sz by' z l c=>
  simp only [opE] at h;split at h
  ·split at h
   ·simp only [Eff.run] at h;split at h
    ·split at h
     ·assumption
     ·cases h
    ·cases h
   ·cases h
  ·cases h
 case buildSlice sz n z ps=>
  simp only [opE] at h;split at h
  ·split at h
   ·simp only [Eff.run] at h;split at h
    ·split at h
     ·assumption
     ·cases h
    ·cases h
   ·cases h
  ·cases h
theorem zjk {call:zy}{f:PX→D}{r:Nat}{op:POp}{out:Out}{tg:Tg}(ht:zdg t op=some tg)(h:(opE call f r op).run H=some out): ∀w∈out.ws,hat H w.1 ≠ .dead:=by
 unfold zdg at ht;split at ht
 ·rename_i hk;obtain ⟨a1,_⟩:=XR (XM (nq:=fun _=>true) (Nat.eq_of_beq_eq_true hk)) h
  rw [a1];intro w hw
  cases hw
 ·split at ht
  ·rename_i k xs hsp;obtain ⟨_,_,a3,_,_⟩:=Je hsp h
   intro w hw;rcases a3 w hw with ⟨e1,e2⟩ | ⟨_,_,_,sz,es,q⟩
   ·subst e2;rw [e1,VH hsp h];simp
   ·rw [q];simp
  ·cases ht
theorem XJ (h:zc fr b N ρ t g){dst:Option Nat}(hd:yk N dst=true){res:Nat}{cd:Code}{op:POp}{gu:Option (Nat×Bool)}(hg:zN g.ts gu=true)(hw:zu g.ts gu=true){aft:List Nat}{tg:Tg}(ht:zdg t op=some tg){K:TS S→Option α}{r:α}(hr:zdk dst res cd op t K=some r) :
  ∃g1 t' ρ',zD (runN pr 0) b ⟨dst,op,gu,aft,res⟩ g=some g1∧K t'=some r∧zc fr b N ρ' t' g1∧(∀o p x,ρ o p=some x→ρ' o p=some x)∧HLd g.hp g1.hp∧TgR ρ' g1.hp tg (zq (runN pr 0) b ⟨dst,op,gu,aft,res⟩ g):=by
 obtain ⟨out,ρ',t',k1,k2,⟨m1,m2,m3⟩,k3⟩:=zhh h hd hr (runN pr 0)
 obtain ⟨e1,e2⟩:=ji (dst:=dst) (aft:=aft) hg hw k1
 refine ⟨_,t',ρ',e1,k3,k2,m1,⟨m2,Dd.of (GhH.refl _) (zjk ht k1)⟩,?_⟩
 rw [e2];unfold zdg at ht;split at ht
 ·rename_i hk
  cases ht;obtain ⟨a1,a2,a3,a4⟩:=XR (XM (nq:=fun _=>true) (Nat.eq_of_beq_eq_true hk)) k1
  show Jp _
  unfold Jp;rw [a1,a2,a3,a4];rfl
 ·split at ht
  ·rename_i k xs hsp;split at ht
   ·rename_i os hos;obtain ⟨a1,a2,a3,a4,a5⟩:=Je hsp k1
    have hobj:=zaF h hos
    have notdead: ∀ {id},(∃sz es,hat g.hp id= .row sz es true)→dead g.hp id→False:=fun ⟨sz,es,q⟩ ⟨sz',es',q'⟩=>by rw [q] at q';cases q'
    have new:k=1→zcp op=true:=fun e=>by subst e;cases op<;>cases hsp<;>rfl
    have row: ∀ {id},(∃x∈xs,qp (PX.ev g.ts x)=some id∧ ∃sz es,hat g.hp id= .row sz es true)→Tch ρ' os id:=fun ⟨x,hx,hr,hrow⟩=>
     ((hobj x hx _ hr).resolve_left (notdead hrow)).up (fun _ q=>q) m1
    have rdd: ∀ {id},(∃x∈xs,qp (PX.ev g.ts x)=some id)→dead (out.on g.hp) id∨Tch ρ' os id:=fun ⟨x,hx,hr⟩=>(hobj x hx _ hr).imp (qd m2) (Tch.up (fun _ q=>q) m1)
    have nof: ∀ {id},id∈out.fz→False:=fun q=>by rw [a4] at q;cases q
    split at ht
    ·cases ht;refine ⟨rfl,fun id hid=>(rdd (a1 id hid)).imp (fun q=>q) (Tch.up (fun o q=>by simpa using q) (fun _ _ _ q=>q)),fun id hid=>(nof hid).elim,fun id hid=> ?_,fun id hid=> ?_⟩
     ·rcases a2 id hid with ⟨_,e⟩ | q
      ·cases e
      ·exact (row q).up (fun o q=>by simpa using q) (fun _ _ _ q=>q)
     ·have hid:id∈out.ws.map (·.1):=hid
      rw [a5 rfl] at hid
      cases hid
    ·cases ht;have hx:xs= []:=by cases op<;>cases hsp<;>rfl
     have mine:Tch ρ' [t.nx] (b+res):=⟨t.nx,by simp,[],m3 (new rfl)⟩
     have none: ∀ {p:PX→Prop},(∃x∈xs,p x)→False:=fun ⟨x,q,_⟩=>by rw [hx] at q;cases q
     have mine0:Top ρ' [t.nx] (b+res):=⟨t.nx,by simp,m3 (new rfl)⟩
     have l2: ∀id,id∈(opE (runN pr 0) (PX.ev g.ts) (b+res) op).lv g.hp→id=b+res:=fun id hid=>by
      rcases a2 id hid with ⟨e,_⟩ | q
      ·exact e
      ·exact (none q).elim
     have l3: ∀id,id∈out.ws.map (·.1)→id=b+res:=fun id hid=>by
      obtain ⟨w,hw,rfl⟩:=List.mem_map.mp hid
      rcases a3 w hw with ⟨e,_⟩ | q
      ·exact e
      ·exact (none q).elim
     exact ⟨⟨rfl,fun id hid=>(none (a1 id hid)).elim,fun id hid=>(nof hid).elim,fun id hid=>by rw [l2 id hid];exact mine,fun id hid=>by rw [l3 id hid];exact mine⟩,
      ⟨rfl,fun id hid=>(none (a1 id hid)).elim,(fun id hid=>by have hid:id∈out.fz:=hid;rw [a4] at hid;cases hid),fun id hid=>by rw [l2 id hid];exact .inl mine0,fun id hid=>by rw [l3 id hid];exact .inl mine0⟩⟩
    ·cases ht;have nk:k≠1:=by assumption
     refine ⟨rfl,fun id hid=>(rdd (a1 id hid)).imp (fun q=>q) (Tch.up (fun o q=>by simpa using q) (fun _ _ _ q=>q)),fun id hid=>(nof hid).elim,fun id hid=> ?_,fun id hid=> ?_⟩
     ·rcases a2 id hid with ⟨_,e⟩ | q
      ·exact absurd e nk
      ·exact (row q).up (fun o q=>by simpa using q) (fun _ _ _ q=>q)
     ·obtain ⟨w,hw,rfl⟩:=List.mem_map.mp hid
      rcases a3 w hw with ⟨_,e⟩ | q
      ·exact absurd e nk
      ·exact row q
   ·cases ht
  ·cases ht
def zeP (Γ:List (zQ S pr))(t:TS S)(op:POp):Option Nat:=match op with
 | .call f ((m,x)::_)=>(match Nat.beq m 2,Y4 Γ f,evK t x with
  | true,some (.lent e),some (.ptr o _ _ _)=>(match e.rs.all VW with
   | true=>some o
   | false=>none)
  | _,_,_=>none)
 | _=>none
theorem zf9 (h:zc fr b N ρ t g){Γ:List (zQ S pr)}{dst:Option Nat}{res:Nat}{cd:Code}{op:POp}{gu:Option (Nat×Bool)}(hg:zN g.ts gu=true)(hw:zu g.ts gu=true){aft:List Nat}{ob:Nat}(hl:zeP Γ t op=some ob){K:TS S→Option α}{r:α}(hr:stepT Γ N dst res cd op t K=some r) :
  ∃n g1 t' g2 ρ',zD (runN pr n) b ⟨dst,op,gu,aft,res⟩ g=some g1∧K t'=some r∧GhK g1 g2∧zc fr b N ρ' t' g2∧(∀o p x,ρ o p=some x→ρ' o p=some x)∧HLd g.hp g2.hp∧V3 ρ' g2.hp [ob] [] (zq (runN pr n) b ⟨dst,op,gu,aft,res⟩ g):=by
 unfold zeP at hl;split at hl
 ·rename_i f m x as;split at hl
  ·rename_i e o p i j hm he hx;split at hl
   ·rename_i hv
    cases hl;obtain rfl:=Nat.eq_of_beq_eq_true hm
    unfold stepT at hr;split at hr
    ·cases hr
    ·rename_i hd;have hr:zak Γ f dst res ((2,x)::as) t K=some r:=hr
     unfold zak at hr;rw [he] at hr;have hr:Ux e dst res ((2,x)::as) t K=some r:=hr
     unfold Ux at hr;simp only [hx] at hr;split at hr
     ·rename_i o' p' i' j' q hm' hx' hq
      cases hx';split at hr
      ·rename_i pn vs hij ho;simp only [Bool.and_eq_true] at hij;obtain rfl:=Nat.eq_of_beq_eq_true hij.1
       obtain rfl:=Nat.eq_of_beq_eq_true hij.2
       split at hr
       ·rename_i a ha;simp only [Option.bind_eq_some_iff] at hr;obtain ⟨v,hvv,hr⟩:=hr
        split at hr
        ·rename_i w hww;obtain ⟨n,out,g',ρ',k1,k2,k3,k4,k5,k6,id,k7,k8,k9,k10,k11⟩:=zf8 h e.ok hx ho ha hq hvv hww hv
         rw [show e.f=f from yS he] at k1 k8 k9;obtain ⟨e1,e2⟩:=ji (op:= .call f ((2,x)::as)) (dst:=dst) (aft:=aft) (res:=res) hg hw k1
         refine ⟨n,_,_,_,ρ',e1,hr,Xz k2,k3.putD hd k4,k5,⟨k6,Dd.of k2.hp (fun w hw=>by
          have:w.1∈out.ws.map (·.1):=List.mem_map.mpr ⟨w,hw,rfl⟩
          rw [k10] at this;simp only [List.mem_singleton] at this;obtain ⟨_,sz,es,q⟩:=h.liv _ _ _ k7
          rw [this,q];simp)⟩,?_⟩
         rw [e2];have ht:Tch ρ' [_] id:=⟨_,List.mem_singleton.mpr rfl,[],k5 _ _ _ k7⟩
         refine ⟨rfl,fun y hy=>(k8 y hy).imp (qd k6) (fun e=>by subst e;exact ht.up (fun o q=>by simpa using q) (fun _ _ _ q=>q)),fun y hy=> .inl (qd k6 (k11 y hy)),fun y hy=> ?_,fun y hy=> ?_⟩
         ·have hy:y∈(zX (runN pr n) (b+res) f (((2,x)::as).map fun p=>(p.1,p.2.ev g.ts))).lv g.hp:=hy
          rw [k9] at hy;simp only [List.mem_singleton] at hy;subst hy;exact ht.up (fun o q=>by simpa using q) (fun _ _ _ q=>q)
         ·have hy:y∈out.ws.map (·.1):=hy
          rw [k10] at hy;simp only [List.mem_singleton] at hy;subst hy;exact ht
        ·cases hr
       ·cases hr
      ·cases hr
     ·cases hr
   ·cases hl
  ·cases hl
 ·cases hl
def zbK:Val S→List Nat
 | .whole o _=> [o]
 | .win o _ _ _=> [o]
 | .ptr o _ _ _=> [o]
 | .pa o _ _ _=> [o]
 | _=> []
def zme:Val S→List Nat
 | .agg vs=>vs.flatMap zbK
 | v=>zbK v
def zjJ (t:TS S):Val S→List Nat
 | .ptr o _ _ _=>o::(match look t.hp o with
  | some (.box _ vs)=>vs.flatMap zbK
  | _=> [])
 | v=>zme v
def zdq (t:TS S)(args:List (Nat×PX)):List Nat:=args.flatMap fun p=>match evK t p.2 with
 | some v=>zjJ t v
 | none=> []
def YR:List RK→Bool
 | [.own _]=>true
 | _=>false
def UJ (Γ:List (zQ S pr)):POp→Option (Ent S pr×List (Nat×PX))
 | .call f args=>(match Y4 Γ f with
  | some (.plain e)=>(match keeps (S:=S) e.rs&&(e.rs.all VW || YR e.rs) with
   | true=>some (e,args)
   | false=>none)
  | _=>none)
 | _=>none
def UU (t:TS S)(R:List Nat):TS S:=t.clear fun o _ => !R.contains o
def zbR (e:Ent S pr)(dst:Option Nat)(res:Nat)(args:List (Nat×PX))(t:TS S)(K:TS S→Option α):Option α:=match qu (UU t (zdq t args)) (keeps (S:=S) e.rs) e.ps args with
 | some p=>(e.F p).bind fun r=>match jX e.rs r res t with
  | some q=>K (q.2.putD dst (VX e.rs q.1))
  | none=>none
 | none=>none
theorem zcS {H':zf}: ∀ {rs:List RK} {v:Flds S (rcs rs)} {xs:List D} {res:Nat} {t:TS S} {q:List (Val S)×TS S},YR rs=true→Zi rs v xs→jX rs v res t=some q→zg (VSx ρ' H') q.1 (zA (b+res) xs).1→ ∀id∈(zA (b+res) xs).2.map (·.1),Tch ρ' [t.nx] id
 | [.own c],v,[],res,t,q,_,hx,_,_=>hx.elim
 | [.own c],v,x::xs,res,t,q,_,hx,hi,hk=>fun id hid=>by
  have hxs:xs= []:=hx.2
  subst hxs;rcases hx.1 with ⟨rfl,_⟩ | ⟨es,rfl,_⟩
  ·simp [zA,jY] at hid
  ·simp [zA,jY] at hid
   subst hid;simp only [jX] at hi;split at hi
   ·cases hi;have h1:VSx ρ' H' (.whole t.nx []) (.ref (b+res) 0 es.length):=hk.1
    have h1:VR1 (S:=S) ρ' H' (.whole t.nx []) (.ref (b+res) 0 es.length):=h1
    rcases h1 with ⟨id,_,_,e1,_,e2⟩ | ⟨_,e2⟩
    ·have e3:=(D.ref.inj e2).1
     exact ⟨t.nx,by simp,[],by rw [e3];exact e1⟩
    ·cases e2
   ·cases hi
 | [],_,_,_,_,_,h,_,_,_=>nomatch h
 | .val _::_,_,_,_,_,_,h,_,_,_=>nomatch h
 | .cl _::_,_,_,_,_,_,h,_,_,_=>nomatch h
 | .fp _::_,_,_,_,_,_,h,_,_,_=>nomatch h
 | .own _::_::_,_,_,_,_,_,h,_,_,_=>nomatch h
theorem zg6 {H':zf}: ∀ {rs:List RK} {v:Flds S (rcs rs)} {xs:List D} {res:Nat} {t:TS S} {q:List (Val S)×TS S},YR rs=true→Zi rs v xs→jX rs v res t=some q→zg (VSx ρ' H') q.1 (zA (b+res) xs).1→ ∀id∈(zA (b+res) xs).2.map (·.1),Top ρ' [t.nx] id
 | [.own c],v,[],res,t,q,_,hx,_,_=>hx.elim
 | [.own c],v,x::xs,res,t,q,_,hx,hi,hk=>fun id hid=>by
  have hxs:xs= []:=hx.2
  subst hxs;rcases hx.1 with ⟨rfl,_⟩ | ⟨es,rfl,_⟩
  ·simp [zA,jY] at hid
  ·simp [zA,jY] at hid
   subst hid;simp only [jX] at hi;split at hi
   ·cases hi;have h1:VSx ρ' H' (.whole t.nx []) (.ref (b+res) 0 es.length):=hk.1
    have h1:VR1 (S:=S) ρ' H' (.whole t.nx []) (.ref (b+res) 0 es.length):=h1
    rcases h1 with ⟨id,_,_,e1,_,e2⟩ | ⟨_,e2⟩
    ·have e3:=(D.ref.inj e2).1
     exact ⟨t.nx,by simp,by rw [e3];exact e1⟩
    ·cases e2
   ·cases hi
 | [],_,_,_,_,_,h,_,_,_=>nomatch h
 | .val _::_,_,_,_,_,_,h,_,_,_=>nomatch h
 | .cl _::_,_,_,_,_,_,h,_,_,_=>nomatch h
 | .fp _::_,_,_,_,_,_,h,_,_,_=>nomatch h
 | .own _::_::_,_,_,_,_,_,h,_,_,_=>nomatch h
def woC (nx:Nat)(rs:List RK):List Nat:=match YR rs with
 | true=> [nx]
 | false=> []
theorem zd8 (h:zc fr b N ρ t g){Γ:List (zQ S pr)}{op:POp}{e:Ent S pr}{args:List (Nat×PX)}(hp:UJ Γ op=some (e,args)){dst:Option Nat}(hd:yk N dst=true){res:Nat}{gu:Option (Nat×Bool)}(hg:zN g.ts gu=true)(hw:zu g.ts gu=true){aft:List Nat}{K:TS S→Option α}{r:α}(hr:zbR e dst res args t K=some r) :
  ∃n g1 t' g2 ρ',zD (runN pr n) b ⟨dst,op,gu,aft,res⟩ g=some g1∧K t'=some r∧GhK g1 g2∧zc fr b N ρ' t' g2∧(∀o p x,ρ o p=some x→ρ' o p=some x)∧HLd g.hp g2.hp∧V3 ρ' g2.hp (woC t.nx e.rs) (zdq t args) (zq (runN pr n) b ⟨dst,op,gu,aft,res⟩ g):=by
 unfold UJ at hp;split at hp
 ·rename_i f args';split at hp
  ·rename_i e' he;split at hp
   ·rename_i hk
    cases hp;simp only [Bool.and_eq_true,Bool.or_eq_true] at hk;obtain ⟨hk1,hk2⟩:=hk
    unfold zbR at hr;split at hr
    ·rename_i p hpa;simp only [Option.bind_eq_some_iff] at hr;obtain ⟨v,hv,hr⟩:=hr
     split at hr
     ·rename_i q hq;have hc:=h.clear (P:=fun o _ => !(zdq t args).contains o) (fun _ _ q=>q)
      obtain ⟨ds,ids,p1,p2,p3⟩:=qS hc (j:=0) hpa
      obtain ⟨n,d,H',r1,r2,xs,hh,rd,e1,e2,e3,e4⟩:=e.ok p v hv ds p2
      obtain ⟨g',ρ',k1,k2,k3,k4,k5⟩:=jq (k:=res) e4 (GhK.refl g) h hq
      have hsc:=jz hk1 e4
      have hl:(zA (b+res) xs).1.length=e.rs.length:=by
       have: ∀ {l:List D} {r:Nat},(zA r l).1.length=l.length:=by
        intro l;induction l with
        | nil=>intro r;rfl
        | cons d l ih=>intro r;simp [zA,ih]
       rw [this,e4.len]
      have h1:(hh.all fun x => !rd.contains x)=true:=e3
      have h2:(hh.all fun x => !([]:List Nat).contains x)=true:=by simp
      have hrun:(zX (runN pr n) (b+res) f (args.map fun p=>(p.1,p.2.ev g.ts))).run g.hp=some ⟨qa d (zA (b+res) xs).1,(zA (b+res) xs).2,[]⟩:=by
       rw [←show e.f=f from yS he];simp only [zX,ze,p1,Option.bind_some,List.map_nil,zP,apart,List.all_nil,Bool.and_self,if_true,r1,finish,e1,ZJ,yL];simp only [e2,List.isEmpty_nil,Bool.true_and,List.nil_append];simp only [h1,h2,Bool.and_self,if_true];rw [j1 k5];simp only [hsc,if_true];rfl
      obtain ⟨q1,q2⟩:=ji (op:= .call f args) (dst:=dst) (aft:=aft) (res:=res) hg hw hrun
      refine ⟨n,_,_,_,ρ',q1,hr,Xz (o:=⟨qa d (zA (b+res) xs).1,(zA (b+res) xs).2,[]⟩) k1,k2.putD hd (Xy r2 hl k4),k3.map,⟨k3.hle,Dd.of (o:=⟨qa d (zA (b+res) xs).1,(zA (b+res) xs).2,[]⟩) k1.hp (fun w hw=>by
       rw [(k5 w.1 (List.mem_map.mpr ⟨w,hw,rfl⟩)).1];simp)⟩,?_⟩
      rw [q2];have hz: ∀a∈args.map (fun p=>(p.1,p.2.ev g.ts)),a.1=0:=fun a ha=>by
       obtain ⟨y,hy,rfl⟩:=List.mem_map.mp ha
       exact qj hpa y hy
      have hnew: ∀id∈(zA (b+res) xs).2.map (·.1),Tch ρ' (woC t.nx e.rs) id:=by
       rcases hk2 with hv' | ho
       ·rw [QR hv' e4];intro id hid
        cases hid
       ·have:woC t.nx e.rs= [t.nx]:=by unfold woC;rw [ho]
        rw [this];exact zcS ho e4 hq k4
      have hcont:(zX (runN pr n) (b+res) f (args.map fun p=>(p.1,p.2.ev g.ts))).rd g.hp=(qX (args.map fun p=>(p.1,p.2.ev g.ts)) 0).rd g.hp∧(zX (runN pr n) (b+res) f (args.map fun p=>(p.1,p.2.ev g.ts))).lv g.hp=(qX (args.map fun p=>(p.1,p.2.ev g.ts)) 0).lv g.hp++(zA (b+res) xs).2.map (·.1):=by
       rw [←show e.f=f from yS he];unfold zX;rw [(zG p1).1,(zG p1).2];simp only [List.map_nil,zP,apart,List.all_nil,Bool.and_self,if_true,r1,finish,e1,ZJ,yL,Option.bind_some];simp only [e2,List.isEmpty_nil,Bool.true_and,List.nil_append];simp only [h1,h2,Bool.and_self,if_true];rw [Zo.1,Zo.2,List.append_nil];exact ⟨rfl,rfl⟩
      obtain ⟨m1,m2⟩:=Qb hz p1
      refine ⟨rfl,fun y hy=> ?_,(fun y hy=>nomatch hy),fun y hy=> ?_,fun y hy=>hnew y hy⟩
      ·have hy:y∈(zX (runN pr n) (b+res) f (args.map fun p=>(p.1,p.2.ev g.ts))).rd g.hp:=hy
       rw [hcont.1] at hy;rcases p3 y (m1 y hy) with q | ⟨_,o,pp,q⟩
       ·exact .inl (qd k3.hle q)
       ·obtain ⟨z1,z2⟩:=zO q
        exact .inr ⟨o,by simp at z1;simp [z1],pp,k3.map _ _ _ z2⟩
      ·have hy:y∈(zX (runN pr n) (b+res) f (args.map fun p=>(p.1,p.2.ev g.ts))).lv g.hp:=hy
       rw [hcont.2,m2,List.nil_append] at hy;exact (hnew y hy).up (fun o q=>List.mem_append_left _ q) (fun _ _ _ q=>q)
     ·cases hr
    ·cases hr
   ·cases hp
  ·cases hp
 ·cases hp
theorem zb9 {call:zy}{f:PX→D}{q sz by':Nat}{x y:PX}{out:Out}(h:(opE call f q (.append sz by' x y)).run H=some out): ∀w∈out.ws, ∀sz es,w.2 ≠ .row sz es false:=by
 simp only [opE,ze,Option.bind_eq_some_iff] at h;obtain ⟨src,hs,h⟩:=h
 by_cases hem:src.isEmpty=true
 ·rw [if_pos hem] at h
  cases hx:f x<;>rw [hx] at h<;>cases h<;>simp
 ·rw [if_neg hem] at h
  cases hx:f x with
  | nil=>
   rw [hx] at h;simp only at h
   split at h
   ·simp only [Eff.run] at h;split at h
    ·split at h
     ·cases h;simp
     ·cases h
    ·cases h
   ·cases h
  | ref id off len=>
   rw [hx] at h;simp only [Eff.run] at h;split at h
   ·split at h
    ·split at h
     ·simp only [Eff.run] at h;split at h
      ·split at h
       ·cases h;simp
       ·cases h
      ·cases h
     ·cases h
    ·cases h
   ·cases h
  | _=>rw [hx] at h;cases h
theorem QI {sz:Nat}{d:D}{src:List (List D)}(h:(source sz d).run H=some src):(∀i∈(source sz d).rd H,qp d=some i)∧(source sz d).lv H= []:=by
 cases d with
 | nil=>exact ⟨by simp [source,Eff.rd],rfl⟩
 | lst s es=>
  simp only [source] at h ⊢
  split
  ·exact ⟨by simp [Eff.rd],rfl⟩
  ·exact ⟨by simp [Eff.rd],rfl⟩
 | ref id off len=>
  simp only [source,Eff.run] at h
  cases hh:hat H id with
  | row s es lv=>
   rw [hh] at h;simp only at h
   split at h
   ·rename_i hc;simp only [source,Eff.rd,Eff.lv,hh,if_pos hc];exact ⟨fun i hi=>by simp at hi;subst hi;rfl,trivial⟩
   ·cases h
  | fresh=>rw [hh] at h;cases h
  | dead=>rw [hh] at h;cases h
 | str s=>
  simp only [source] at h ⊢
  split
  ·exact ⟨by simp [Eff.rd],rfl⟩
  ·exact ⟨by simp [Eff.rd],rfl⟩
 | _=>cases h
theorem U7 {call:zy}{f:PX→D}{q sz by':Nat}{x y:PX}{out:Out}(h:(opE call f q (.append sz by' x y)).run H=some out) :
  (∀i∈(opE call f q (.append sz by' x y)).rd H,qp (f y)=some i∨(qp (f x)=some i∧ ∃sz es,hat H i= .row sz es true)) ∧
  (∀i∈(opE call f q (.append sz by' x y)).lv H,hat H i= .fresh∨(qp (f x)=some i∧ ∃sz es,hat H i= .row sz es true)) ∧
  (∀w∈out.ws,hat H w.1= .fresh∨(qp (f x)=some w.1∧ ∃sz es,hat H w.1= .row sz es true))∧out.fz= []∧ ∀w∈out.ws, ∀sz es,hat H w.1 ≠ .row sz es false:=by
 simp only [opE,ze,Option.bind_eq_some_iff] at h;obtain ⟨src,hs,h⟩:=h
 obtain ⟨s1,s2⟩:=QI hs
 have hr:=zG (f:=fun src=>if src.isEmpty=true then (match f x with
   | .nil=>quiet .nil
   | .ref id off len=>quiet (.ref id off len)
   | .lst s es=>quiet (.lst s es)
   | _=>Eff.fail)
  else
   (match f x with
   | .nil=>if src.length≤roomy∧src.length*by'≤roomy then .new q (.pure ⟨.ref q 0 src.length,[(q,.row sz src true)],[]⟩) else .fail
   | .ref id off len=> .live id (.get id fun s es=>
    if s=sz∧off=0∧len≤es.length∧len+src.length≤roomy∧(len+src.length)*by'≤roomy then
     .new q (.pure ⟨.ref q 0 (len+src.length),[(id,.dead),(q,.row sz (es.take len++src) true)],[]⟩)
    else .fail)
   | _=> .fail)) hs
 have e1:(opE call f q (.append sz by' x y)).rd H=_:=hr.1
 have e2:(opE call f q (.append sz by' x y)).lv H=_:=hr.2
 rw [e1,e2,s2,List.nil_append];clear e1 e2 hr
 by_cases hem:src.isEmpty=true
 ·rw [if_pos hem] at h ⊢
  cases hx:f x with
  | nil=>rw [hx] at h;cases h;exact ⟨fun i hi=>by simp [quiet,Eff.rd] at hi;exact .inl (s1 i hi),by simp [quiet,Eff.lv],by simp,rfl,by simp⟩
  | ref id off len=>rw [hx] at h;cases h;exact ⟨fun i hi=>by simp [quiet,Eff.rd] at hi;exact .inl (s1 i hi),by simp [quiet,Eff.lv],by simp,rfl,by simp⟩
  | lst s es=>rw [hx] at h;cases h;exact ⟨fun i hi=>by simp [quiet,Eff.rd] at hi;exact .inl (s1 i hi),by simp [quiet,Eff.lv],by simp,rfl,by simp⟩
  | _=>rw [hx] at h;cases h
 ·rw [if_neg hem] at h ⊢
  cases hx:f x with
  | nil=>
   rw [hx] at h;simp only at h ⊢
   split at h
   ·rename_i hc;simp only [Eff.run] at h;split at h
    ·split at h
     ·rename_i hf
      cases h;simp only [hc,and_self,if_true,Eff.rd,Eff.lv,List.append_nil];refine ⟨fun i hi=> .inl (s1 i hi),fun i hi=> ?_,fun w hw=> ?_,trivial,fun w hw sz es=> ?_⟩
      ·simp at hi;subst hi;exact .inl hf
      ·simp at hw;subst hw;exact .inl hf
      ·simp at hw;subst hw;rw [hf];simp
     ·cases h
    ·cases h
   ·cases h
  | ref id off len=>
   rw [hx] at h;simp only [Eff.run] at h
   cases hh:hat H id with
   | row s es lv=>
    cases lv with
    | true=>
     rw [hh] at h;simp only at h
     split at h
     ·rename_i hc;simp only [Eff.run] at h;split at h
      ·split at h
       ·rename_i hf
        cases h;have hcc:s=sz∧off=0∧len≤es.length∧len+src.length≤roomy∧(len+src.length)*by'≤roomy:=hc
        simp only [Eff.rd,Eff.lv,hh,if_pos hcc];refine ⟨fun i hi=> ?_,fun i hi=> ?_,fun w hw=> ?_,trivial,fun w hw sz es=> ?_⟩
        ·simp at hi;rcases hi with hi | rfl
         ·exact .inl (s1 i hi)
         ·exact .inr ⟨rfl,_,_,hh⟩
        ·simp at hi;rcases hi with rfl | rfl
         ·exact .inr ⟨rfl,_,_,hh⟩
         ·exact .inl hf
        ·simp at hw;rcases hw with rfl | rfl
         ·exact .inr ⟨rfl,_,_,hh⟩
         ·exact .inl hf
        ·simp at hw;rcases hw with rfl | rfl
         ·rw [hh];simp
         ·rw [hf];simp
       ·cases h
      ·cases h
     ·cases h
    | false=>rw [hh] at h;cases h
   | fresh=>rw [hh] at h;cases h
   | dead=>rw [hh] at h;cases h
  | _=>rw [hx] at h;cases h
theorem Ve {call:zy}{f:PX→D}{q sz by':Nat}{x y:PX}{out:Out}(h:(opE call f q (.append sz by' x y)).run H=some out) :
  (∀i∈(opE call f q (.append sz by' x y)).rd H,qp (f y)=some i ∨ ∃w∈out.ws,w.1=i)∧(∀i∈(opE call f q (.append sz by' x y)).lv H, ∃w∈out.ws,w.1=i):=by
 simp only [opE,ze,Option.bind_eq_some_iff] at h;obtain ⟨src,hs,h⟩:=h
 obtain ⟨s1,s2⟩:=QI hs
 have e1:(opE call f q (.append sz by' x y)).rd H=_:=(zG hs).1
 have e2:(opE call f q (.append sz by' x y)).lv H=_:=(zG hs).2
 rw [e1,e2,s2,List.nil_append];clear e1 e2
 by_cases hem:src.isEmpty=true
 ·rw [if_pos hem] at h;simp only [if_pos hem]
  cases hx:f x<;>rw [hx] at h<;>cases h<;>simp only [quiet,Eff.rd,Eff.lv,List.append_nil]<;>exact ⟨fun i hi=> .inl (s1 i hi),fun i hi=>by cases hi⟩
 ·rw [if_neg hem] at h;simp only [if_neg hem]
  cases hx:f x with
  | nil=>
   rw [hx] at h;simp only at h ⊢
   split at h
   ·rename_i hc;simp only [Eff.run] at h;split at h
    ·split at h
     ·cases h;simp only [if_pos hc,Eff.rd,Eff.lv,List.append_nil];exact ⟨fun i hi=> .inl (s1 i hi),fun i hi=>⟨_,List.mem_singleton.mpr rfl,by simp at hi;exact hi.symm⟩⟩
     ·cases h
    ·cases h
   ·cases h
  | ref id off len=>
   rw [hx] at h;simp only [Eff.run] at h
   cases hh:hat H id with
   | row s es lv=>
    cases lv with
    | true=>
     rw [hh] at h;simp only at h
     split at h
     ·rename_i hc;simp only [Eff.run] at h;split at h
      ·split at h
       ·cases h;simp only [Eff.rd,Eff.lv,hh,if_pos hc];refine ⟨fun i hi=> ?_,fun i hi=> ?_⟩
        ·simp at hi;rcases hi with hi | rfl
         ·exact .inl (s1 i hi)
         ·exact .inr ⟨(_,Blk.dead),List.mem_cons_self ..,rfl⟩
        ·simp at hi;rcases hi with rfl | rfl
         ·exact ⟨(_,Blk.dead),List.mem_cons_self ..,rfl⟩
         ·exact ⟨_,List.mem_cons_of_mem _ (List.mem_singleton.mpr rfl),rfl⟩
       ·cases h
      ·cases h
     ·cases h
    | false=>rw [hh] at h;cases h
   | fresh=>rw [hh] at h;cases h
   | dead=>rw [hh] at h;cases h
  | _=>rw [hx] at h;cases h
theorem JM {call:zy}{f:PX→D}{q sz by':Nat}{x y:PX}{out:Out}(h:(opE call f q (.append sz by' x y)).run H=some out): ∀w∈out.ws,w.2= .dead→hat (out.on H) w.1= .dead:=by
 have h0:=h
 simp only [opE,ze,Option.bind_eq_some_iff] at h;obtain ⟨src,hs,h⟩:=h
 by_cases hem:src.isEmpty=true
 ·rw [if_pos hem] at h
  cases hx:f x<;>rw [hx] at h<;>cases h<;>simp
 ·rw [if_neg hem] at h
  cases hx:f x with
  | nil=>
   rw [hx] at h;simp only at h
   split at h
   ·simp only [Eff.run] at h;split at h
    ·split at h
     ·cases h;simp
     ·cases h
    ·cases h
   ·cases h
  | ref id off len=>
   rw [hx] at h;simp only [Eff.run] at h
   cases hh:hat H id with
   | row s es lv=>
    cases lv with
    | true=>
     rw [hh] at h;simp only at h
     split at h
     ·simp only [Eff.run] at h;split at h
      ·rename_i hl;split at h
       ·rename_i hf
        cases h;intro w hw hd;simp at hw;rcases hw with rfl | rfl
        ·have hne:id≠q:=fun e=>by subst e;rw [hh] at hf;cases hf
         have hlt:id<H.length:=yB (by rw [hh];simp)
         show hat ((H.set id .dead).set q _) id= .dead
         rw [zp (by simpa using hl),if_neg hne,zp hlt,if_pos rfl]
        ·cases hd
       ·cases h
      ·cases h
     ·cases h
    | false=>rw [hh] at h;cases h
   | fresh=>rw [hh] at h;cases h
   | dead=>rw [hh] at h;cases h
  | _=>rw [hx] at h;cases h
structure Xn (ρ:Rho) (H:zf) (wo ro:List Nat) (f:Fp):Prop where
 all:f.all=false
 rd: ∀id∈f.rd,dead H id∨Tch ρ (wo++ro) id∨hat H id= .dead
 fz: ∀id∈f.fz,dead H id∨Tch ρ wo id
 lv: ∀id∈f.lv,Tch ρ (wo++ro) id∨hat H id= .dead
 wr: ∀id∈f.wr,Tch ρ wo id∨hat H id= .dead
theorem V3.toG {wo ro:List Nat}{f:Fp}(h:V3 ρ H wo ro f):Xn ρ H wo ro f:=⟨h.all,fun id q=>(h.rd id q).imp (fun z=>z) .inl,h.fz,fun id q=> .inl (h.lv id q),fun id q=> .inl (h.wr id q)⟩
theorem Xn.up {wo ro:List Nat}{f:Fp}(h:Xn ρ H wo ro f)(hm: ∀o p x,o∈wo++ro→ρ o p=some x→ρ' o p=some x)(hh:HLd H H'):Xn ρ' H' wo ro f:=by
 have l1: ∀o∈wo,o∈wo++ro:=fun o q=>List.mem_append_left _ q
 have tt: ∀ {os:List Nat} {id},(∀o∈os,o∈wo++ro)→Tch ρ os id→Tch ρ' os id:=fun hos ⟨o,e1,p,e2⟩=>⟨o,e1,p,hm _ _ _ (hos o e1) e2⟩
 exact ⟨h.all,fun id q=>(h.rd id q).imp (qd hh.1) (fun z=>z.imp (tt fun _ q=>q) (hh.2 id)),fun id q=>(h.fz id q).imp (qd hh.1) (tt l1),fun id q=>(h.lv id q).imp (tt fun _ q=>q) (hh.2 id),fun id q=>(h.wr id q).imp (tt l1) (hh.2 id)⟩
theorem zd5 (h:zc fr b N ρ t g){wo ro wo' ro':List Nat}{f f':Fp}(h1:Xn ρ g.hp wo' ro' f)(h2:V3 ρ g.hp wo ro f')(hd:(ZN wo' (wo++ro)&&ZN wo (wo'++ro'))=true):clash f f'=false:=by
 simp only [Bool.and_eq_true] at hd;have ne: ∀ {xs ys:List Nat},ZN xs ys=true→ ∀id,Tch ρ xs id→Tch ρ ys id→False:=fun hd id ⟨o,q1,p,q2⟩ ⟨o',q3,p',q4⟩=>by
  obtain ⟨rfl,_⟩:=h.inj _ _ _ _ _ q2 q4
  have:=List.all_eq_true.mp hd o q1
  simp at this;exact this q3
 have live: ∀ {os:List Nat} {id},Tch ρ os id→dead g.hp id→False:=fun ⟨o,q1,p,q2⟩ ⟨sz,es,q3⟩=>by
  obtain ⟨_,_,_,q4⟩:=h.liv _ _ _ q2
  rw [q3] at q4
  cases q4
 have gone: ∀ {os:List Nat} {id},Tch ρ os id→hat g.hp id= .dead→False:=fun ⟨o,q1,p,q2⟩ q3=>by
  obtain ⟨_,_,_,q4⟩:=h.liv _ _ _ q2
  rw [q3] at q4
  cases q4
 have goned: ∀ {id},dead g.hp id→hat g.hp id= .dead→False:=fun ⟨sz,es,q1⟩ q3=>by rw [q3] at q1;cases q1
 have left: ∀ {xs ys:List Nat} {id},Tch ρ xs id→Tch ρ (xs++ys) id:=fun q=>q.up (fun o ho=>List.mem_append_left _ ho) (fun _ _ _ q=>q)
 have A: ∀id,(Tch ρ wo' id∨hat g.hp id= .dead)→(dead g.hp id∨Tch ρ (wo++ro) id)→False:=fun id q1 q2=>q1.elim (fun q=>q2.elim (live q) (ne hd.1 id q)) (fun q=>q2.elim (fun z=>goned z q) (fun z=>gone z q))
 have B: ∀id,Tch ρ wo id→(dead g.hp id∨Tch ρ (wo'++ro') id∨hat g.hp id= .dead)→False:=fun id q1 q2=>q2.elim (live q1) (fun z=>z.elim (ne hd.2 id q1) (gone q1))
 have e1:meets f.wr f'.rd=false:=yb fun id q1 q2=>A id (h1.wr id q1) (h2.rd id q2)
 have e2:meets f.wr f'.lv=false:=yb fun id q1 q2=>A id (h1.wr id q1) (.inr (h2.lv id q2))
 have e3:meets f.wr f'.wr=false:=yb fun id q1 q2=>A id (h1.wr id q1) (.inr (left (h2.wr id q2)))
 have e4:meets f.wr f'.fz=false:=yb fun id q1 q2=>A id (h1.wr id q1) ((h2.fz id q2).imp (fun q=>q) left)
 have e5:meets f'.wr f.rd=false:=yb fun id q1 q2=>B id (h2.wr id q1) (h1.rd id q2)
 have e6:meets f'.wr f.lv=false:=yb fun id q1 q2=>B id (h2.wr id q1) (.inr (h1.lv id q2))
 have e7:meets f'.wr f.fz=false:=yb fun id q1 q2=>B id (h2.wr id q1) ((h1.fz id q2).imp (fun q=>q) (fun z=> .inl (left z)))
 have e8:meets f.fz f'.lv=false:=yb fun id q1 q2=>(h1.fz id q1).elim (live (h2.lv id q2)) (fun q=>A id (.inl q) (.inr (h2.lv id q2)))
 have e9:meets f'.fz f.lv=false:=yb fun id q1 q2=>(h2.fz id q1).elim (fun z=>(h1.lv id q2).elim (fun q=>live q z) (goned z)) (fun q=>B id q (.inr (h1.lv id q2)))
 simp [clash,h1.all,h2.all,e1,e2,e3,e4,e5,e6,e7,e8,e9]
theorem Xm.toG {wo ro:List Nat}{f:Fp}(h:Xm ρ H wo ro f):Xn ρ H wo ro f:=by
 have tl: ∀ {id},Top ρ wo id→Tch ρ (wo++ro) id:=fun q=>(Top.toT q).up (fun o ho=>List.mem_append_left _ ho) (fun _ _ _ q=>q)
 have tr: ∀ {id},Tch ρ ro id→Tch ρ (wo++ro) id:=fun q=>q.up (fun o ho=>List.mem_append_right _ ho) (fun _ _ _ q=>q)
 exact ⟨h.all,fun id q=>(h.rd id q).imp (fun z=>z) (fun z=>z.elim (fun y=> .inl (tl y)) (fun y=>y.imp tr (fun y=>y))),fun id q=> .inl (h.fz id q),
  fun id q=>(h.lv id q).elim (fun y=> .inl (tl y)) (fun y=>y.imp tr (fun y=>y)),fun id q=>(h.wr id q).imp (fun y=>Top.toT y) (fun y=>y)⟩
theorem Xm.tp {wo ro mo:List Nat}{f:Fp}(h:Xm ρ H wo ro f)(ht: ∀o id,o∈wo→ρ o []=some (some id)→ρ' o []=some (some id)∨hat H' id= .dead)(hm: ∀o p x,o∈ro→ρ o p=some x→ρ' o p=some x)(hh:HLd H H'):Xm ρ' H' wo ro f:=by
 have tt: ∀ {id},Top ρ wo id→Top ρ' wo id∨hat H' id= .dead:=fun ⟨o,e1,e2⟩=>(ht o _ e1 e2).imp (fun q=>⟨o,e1,q⟩) (fun q=>q)
 have tr: ∀ {id},Tch ρ ro id→Tch ρ' ro id:=fun ⟨o,e1,p,e2⟩=>⟨o,e1,p,hm _ _ _ e1 e2⟩
 exact ⟨h.all,fun id q=>(h.rd id q).imp (qd hh.1) (fun z=>z.elim (fun y=>(tt y).imp (fun y=>y) .inr) (fun y=> .inr (y.imp tr (hh.2 id)))),fun id q=>qd hh.1 (h.fz id q),
  fun id q=>(h.lv id q).elim (fun y=>(tt y).imp (fun y=>y) .inr) (fun y=> .inr (y.imp tr (hh.2 id))),fun id q=>(h.wr id q).elim tt (fun y=> .inr (hh.2 id y))⟩
def JQ (ρ:Rho)(H:zf):(List Nat×List Nat)×Bool→Fp→Prop
 | ((wo,ro),true),f=>Xm ρ H wo ro f
 | ((wo,ro),false),f=>Xn ρ H wo ro f
theorem JQ.toG: ∀ {x:(List Nat×List Nat)×Bool} {f:Fp},JQ ρ H x f→Xn ρ H x.1.1 x.1.2 f
 | ((_,_),true),_,h=>Xm.toG h
 | ((_,_),false),_,h=>h
theorem JQ.up: ∀ {x:(List Nat×List Nat)×Bool} {f:Fp},JQ ρ H x f→(∀o p y,o∈x.1.1++x.1.2→ρ o p=some y→ρ' o p=some y)→HLd H H'→JQ ρ' H' x f
 | ((wo,ro),true),_,h,hm,hh=>Xm.tp (mo:= []) h (fun o id e1 e2=> .inl (hm o [] _ (List.mem_append_left _ e1) e2)) (fun o p y e1 e2=>hm o p y (List.mem_append_right _ e1) e2) hh
 | ((wo,ro),false),_,h,hm,hh=>Xn.up h hm hh
structure zgT (ρ:Rho) (H:zf) (wo ro:List Nat) (f:Fp):Prop where
 all:f.all=false
 rd: ∀id∈f.rd,dead H id∨Tch ρ (wo++ro) id
 fz: ∀id∈f.fz,dead H id
 lv: ∀id∈f.lv,hat H id= .fresh∨Tch ρ (wo++ro) id
 wr: ∀id∈f.wr,hat H id= .fresh∨Tch ρ wo id
theorem VR (h:zc fr b N ρ t g){wo ro wo' ro':List Nat}{f f':Fp}(h1:Xn ρ g.hp wo' ro' f)(h2:zgT ρ g.hp wo ro f')(hd:(ZN wo' (wo++ro)&&ZN wo (wo'++ro'))=true):clash f f'=false:=by
 simp only [Bool.and_eq_true] at hd;have ne: ∀ {xs ys:List Nat},ZN xs ys=true→ ∀id,Tch ρ xs id→Tch ρ ys id→False:=fun hd id ⟨o,q1,p,q2⟩ ⟨o',q3,p',q4⟩=>by
  obtain ⟨rfl,_⟩:=h.inj _ _ _ _ _ q2 q4
  have:=List.all_eq_true.mp hd o q1
  simp at this;exact this q3
 have live: ∀ {os:List Nat} {id},Tch ρ os id→dead g.hp id→False:=fun ⟨o,q1,p,q2⟩ ⟨sz,es,q3⟩=>by
  obtain ⟨_,_,_,q4⟩:=h.liv _ _ _ q2
  rw [q3] at q4
  cases q4
 have gone: ∀ {os:List Nat} {id},Tch ρ os id→hat g.hp id= .dead→False:=fun ⟨o,q1,p,q2⟩ q3=>by
  obtain ⟨_,_,_,q4⟩:=h.liv _ _ _ q2
  rw [q3] at q4
  cases q4
 have new: ∀ {os:List Nat} {id},Tch ρ os id→hat g.hp id= .fresh→False:=fun ⟨o,q1,p,q2⟩ q3=>by
  obtain ⟨_,_,_,q4⟩:=h.liv _ _ _ q2
  rw [q3] at q4
  cases q4
 have goned: ∀ {id},dead g.hp id→hat g.hp id= .dead→False:=fun ⟨sz,es,q1⟩ q3=>by rw [q3] at q1;cases q1
 have newd: ∀ {id},dead g.hp id→hat g.hp id= .fresh→False:=fun ⟨sz,es,q1⟩ q3=>by rw [q3] at q1;cases q1
 have ng: ∀ {id},hat g.hp id= .dead→hat g.hp id= .fresh→False:=fun q1 q3=>by rw [q3] at q1;cases q1
 have left: ∀ {xs ys:List Nat} {id},Tch ρ xs id→Tch ρ (xs++ys) id:=fun q=>q.up (fun o ho=>List.mem_append_left _ ho) (fun _ _ _ q=>q)
 have A: ∀id,(Tch ρ wo' id∨hat g.hp id= .dead)→(dead g.hp id∨hat g.hp id= .fresh∨Tch ρ (wo++ro) id)→False:=fun id q1 q2=>q1.elim (fun q=>q2.elim (live q) (fun z=>z.elim (new q) (ne hd.1 id q))) (fun q=>q2.elim (fun z=>goned z q) (fun z=>z.elim (ng q) (fun y=>gone y q)))
 have B: ∀id,(hat g.hp id= .fresh∨Tch ρ wo id)→(dead g.hp id∨Tch ρ (wo'++ro') id∨hat g.hp id= .dead)→False:=fun id q1 q2=>q1.elim (fun q=>q2.elim (fun z=>newd z q) (fun z=>z.elim (fun y=>new y q) (fun y=>ng y q))) (fun q=>q2.elim (live q) (fun z=>z.elim (ne hd.2 id q) (gone q)))
 have e1:meets f.wr f'.rd=false:=yb fun id q1 q2=>A id (h1.wr id q1) ((h2.rd id q2).imp (fun q=>q) .inr)
 have e2:meets f.wr f'.lv=false:=yb fun id q1 q2=>A id (h1.wr id q1) (.inr (h2.lv id q2))
 have e3:meets f.wr f'.wr=false:=yb fun id q1 q2=>A id (h1.wr id q1) (.inr ((h2.wr id q2).imp (fun q=>q) left))
 have e4:meets f.wr f'.fz=false:=yb fun id q1 q2=>A id (h1.wr id q1) (.inl (h2.fz id q2))
 have e5:meets f'.wr f.rd=false:=yb fun id q1 q2=>B id (h2.wr id q1) (h1.rd id q2)
 have e6:meets f'.wr f.lv=false:=yb fun id q1 q2=>B id (h2.wr id q1) (.inr (h1.lv id q2))
 have e7:meets f'.wr f.fz=false:=yb fun id q1 q2=>B id (h2.wr id q1) ((h1.fz id q2).imp (fun q=>q) (fun z=> .inl (left z)))
 have e8:meets f.fz f'.lv=false:=yb fun id q1 q2=>(h1.fz id q1).elim (fun z=>(h2.lv id q2).elim (newd z) (fun q=>live q z)) (fun q=>A id (.inl q) (.inr (h2.lv id q2)))
 have e9:meets f'.fz f.lv=false:=yb fun id q1 q2=>(h1.lv id q2).elim (fun z=>live z (h2.fz id q1)) (goned (h2.fz id q1))
 simp [clash,h1.all,h2.all,e1,e2,e3,e4,e5,e6,e7,e8,e9]
def QQ:Val S→Option (List Nat)
 | .nil=>some []
 | .whole o []=>some [o]
 | .win o [] _ _=>some [o]
 | _=>none
structure SX where
 wo:List Nat
 ro:List Nat
 mo:List Nat
 tp:Bool
 ent:Option ((List Nat×List Nat)×Bool)
def woN (nx:Nat):List Nat→List Nat
 | []=> [nx]
 | wo=>wo
def spX (t:TS S)(cd:Code):POp→Option SX
 | .append _ _ x y=>(match evK t x,evK t y with
  | some v,some w=>(match zW cd with
   | true=>(match QQ v,QQ w with
    | some os,some ro=>some ⟨os++ro,[],os++ro,true,some ((os++ro,[]),true)⟩
    | _,_=>none)
   | false=>(match QQ v,zdm w with
    | some os,some ro=>some ⟨os,ro,os,true,match ZN ro os with
     | true=>some ((woN t.nx os,ro),true)
     | false=>none⟩
    | _,_=>none))
  | _,_=>none)
 | .buildSlice _ _ _ ps=>(match zW cd with
  | true=>some ⟨[],[],moB t ps,false,some (([t.nx],[]),true)⟩
  | false=>none)
 | _=>none
theorem zhN {v:Val S}{d:D}{os:List Nat}(ho:QQ v=some os)(h:VS ρ H v d):(∀id,qp d=some id→Tch ρ os id)∧ ∀o,QO v=some o→os.contains o=true:=by
 unfold QQ at ho;split at ho
 ·cases ho;have:d= .nil:=h
  subst this;exact ⟨fun id hr=>(nomatch hr),fun o hw=>(nomatch hw)⟩
 ·rename_i o
  cases ho;refine ⟨fun id hr=> ?_,fun o' hw=>by cases hw;simp⟩
  rcases h with ⟨id',_,_,h1,_,rfl⟩ | ⟨_,rfl⟩
  ·cases hr;exact ⟨o,by simp,[],h1⟩
  ·cases hr
 ·rename_i o off len
  cases ho;refine ⟨fun id hr=> ?_,fun o' hw=>by cases hw;simp⟩
  rcases h with ⟨id',_,_,h1,_,_,rfl⟩ | ⟨_,_,_,rfl⟩
  ·cases hr;exact ⟨o,by simp,[],h1⟩
  ·cases hr
 ·cases ho
theorem zkt {v:Val S}{os:List Nat}(ho:QQ v=some os):zdm v=some os:=by
 unfold QQ at ho;split at ho<;>first | (cases ho;rfl) | (cases ho;done)
theorem za7 {v:Val S}{d:D}{os:List Nat}(ho:QQ v=some os)(h:VS ρ H v d){o id:Nat}(hm:o∈os)(hr:ρ o []=some (some id)): ∃off len,d= .ref id off len:=by
 unfold QQ at ho;split at ho
 ·cases ho;cases hm
 ·rename_i o'
  cases ho;obtain rfl:o=o':=by simpa using hm
  rcases h with ⟨id',_,_,h1,_,rfl⟩ | ⟨h1,rfl⟩
  ·rw [hr] at h1;cases h1;exact ⟨_,_,rfl⟩
  ·rw [hr] at h1;cases h1
 ·rename_i o' off len
  cases ho;obtain rfl:o=o':=by simpa using hm
  rcases h with ⟨id',_,_,h1,_,_,rfl⟩ | ⟨h1,_,_,rfl⟩
  ·rw [hr] at h1;cases h1;exact ⟨_,_,rfl⟩
  ·rw [hr] at h1;cases h1
 ·cases ho
theorem zjD {v:Val S}{os:List Nat}(ho:zdm v=some os): ∀o,QO v=some o→os.contains o=true:=by
 intro o hw
 cases v<;>first | (cases hw;done) | (cases hw;cases ho;simp)
theorem zgk {v:Val S}{os:List Nat}(ho:QQ v=some os)(h:QO v=none):os= []:=by
 unfold QQ at ho;split at ho
 ·cases ho;rfl
 ·cases h
 ·cases h
 ·cases ho
theorem zgj {call:zy}{f:PX→D}{r sz n:Nat}{z:List D}{ps:List (Nat×PX)}{out:Out}(h:(opE call f r (.buildSlice sz n z ps)).run H=some out): ∃w,w∈out.ws:=by
 simp only [opE] at h;split at h
 ·split at h
  ·simp only [Eff.run] at h;split at h
   ·split at h
    ·cases h;exact ⟨_,List.mem_singleton.mpr rfl⟩
    ·cases h
   ·cases h
  ·cases h
 ·cases h
theorem zdX {call:zy}{f:PX→D}{q sz by':Nat}{x y:PX}{out:Out}(h:(opE call f q (.append sz by' x y)).run H=some out){id off:Nat}(hy:f y= .ptr id off):False:=by
 simp only [opE,ze,hy,source,Eff.run] at h
 cases h
theorem zjm (h:zc fr b N ρ t g){Γ:List (zQ S pr)}{dst:Option Nat}{res:Nat}{cd:Code}{op:POp}{gu:Option (Nat×Bool)}(hg:zN g.ts gu=true)(hw:zu g.ts gu=true){aft:List Nat}{X:SX}(hl:spX t cd op=some X){K:TS S→Option α}{r:α}(hr:stepT Γ N dst res cd op t K=some r) :
  ∃g1 t' g2 ρ',zD (runN pr 0) b ⟨dst,op,gu,aft,res⟩ g=some g1∧K t'=some r∧GhK g1 g2∧zc fr b N ρ' t' g2∧Mv X.mo ρ ρ'∧(X.tp=true→TPd ρ ρ' g2.hp)∧HLd g.hp g2.hp∧zgT ρ g.hp X.wo X.ro (zq (runN pr 0) b ⟨dst,op,gu,aft,res⟩ g)∧ ∀x,X.ent=some x→JQ ρ' g2.hp x (zq (runN pr 0) b ⟨dst,op,gu,aft,res⟩ g):=by
 unfold spX at hl;split at hl
 ·rename_i sz by' x y;split at hl
  ·rename_i v w hv hw';obtain ⟨os,ro0,wo,ro,ho,hro,hcs,hao,hX⟩: ∃os ro0 wo ro,QQ v=some os∧zdm w=some ro0∧((zW cd=true∧wo=os++ro0∧ro= [])∨(zW cd=false∧wo=os∧ro=ro0))∧(zW cd=true→QQ w=some ro0)∧X=⟨wo,ro,wo,true,match zW cd,ZN ro wo with
     | false,true=>some ((woN t.nx wo,ro),true)
     | false,false=>none
     | true,_=>some ((wo,[]),true)⟩:=by
    split at hl
    ·rename_i hc;split at hl
     ·rename_i os ro0 a1 a2
      cases hl;exact ⟨os,ro0,_,_,a1,zkt a2,.inl ⟨hc,rfl,rfl⟩,fun _=>a2,by rw [hc]⟩
     ·cases hl
    ·rename_i hc;split at hl
     ·rename_i os ro0 a1 a2
      cases hl;exact ⟨os,ro0,_,_,a1,a2,.inr ⟨hc,rfl,rfl⟩,(fun e=>by rw [hc] at e;cases e),by rw [hc];cases ZN ro0 os<;>rfl⟩
     ·cases hl
   subst hX;obtain ⟨x1,x2⟩:=zhN ho (h.ev hv)
   have y2:=zjD hro
   have y1: ∀id,qp (y.ev g.ts)=some id→dead g.hp id∨Tch ρ ro0 id:=fun id hid=>zcU hro (h.ev hw') hid
   have hwo: ∀o∈os,o∈wo:=fun o q=>by rcases hcs with ⟨_,rfl,_⟩ | ⟨_,rfl,_⟩<;>simp [q]
   have hwr: ∀o∈ro0,o∈wo++ro:=fun o q=>by rcases hcs with ⟨_,rfl,rfl⟩ | ⟨_,rfl,rfl⟩<;>simp [q]
   unfold stepT at hr;split at hr
   ·cases hr
   ·rename_i hd;have hr:op1 dst res cd (.append sz by' x y) t K=some r:=hr
    have hp:yK t (.append sz by' x y)=none:=rfl
    unfold op1 at hr;rw [hp] at hr;have got: ∀call:zy, ∃out ρ' t',(opE call (PX.ev g.ts) (b+res) (.append sz by' x y)).run g.hp=some out∧zc fr b N ρ' t' ⟨yh g.ts dst out.d,out.on g.hp⟩∧(Mv wo ρ ρ'∧(zW cd=false→zle t.nx wo ρ' out.ws∧TPd ρ ρ' (out.on g.hp))∧(zW cd=true→(∀w∈out.ws,w.2= .dead ∨ ∃o,wo.contains o=true∧ρ' o []=some (some w.1))∧(∀id off len,x.ev g.ts= .ref id off len→hat (out.on g.hp) id= .dead)∧ ∀id off len,y.ev g.ts= .ref id off len→(∀o p,ρ' o p≠some (some id))∧fr id=none∧ ∃sz es,hat (out.on g.hp) id= .row sz es true))∧K t'=some r:=by
     have hr:(match zW cd with
      | true=>Za dst res sz by' x y t K
      | false=>Z4 dst res cd sz by' x y t K)=some r:=hr
     rcases hcs with ⟨hc,rfl,rfl⟩ | ⟨hc,rfl,rfl⟩
     ·rw [hc] at hr;have:=YK (wo:=os++ro0) h hd (fun v' o e1 e2=> ?_) (fun v' o e1 e2=> ?_) hr
      ·exact fun call=>let ⟨out,ρ',t',a,b,c,d⟩:=this call; ⟨out,ρ',t',a,b,⟨c.1,(fun e=>by rw [hc] at e;cases e),fun _=>c.2⟩,d⟩
      ·rw [hv] at e1;cases e1;have:=x2 o e2
       simp only [List.contains_eq_mem,decide_eq_true_eq,List.mem_append] at this ⊢
       exact .inl this
      ·rw [hw'] at e1;cases e1;have:=y2 o e2
       simp only [List.contains_eq_mem,decide_eq_true_eq,List.mem_append] at this ⊢
       exact .inr this
     ·rw [hc] at hr;have:=QL h hd (fun v' o e1 e2=>by rw [hv] at e1;cases e1;exact x2 o e2) (fun v' e1 e2=>by rw [hv] at e1;cases e1;exact zgk ho e2) hr
      exact fun call=>let ⟨out,ρ',t',a,b,c,d⟩:=this call; ⟨out,ρ',t',a,b,⟨c.1,(fun _=>c.2),fun e=>by rw [hc] at e;cases e⟩,d⟩
    obtain ⟨out,ρ',t',k1,k2,⟨k3,k3',k3o⟩,k4⟩:=got (runN pr 0)
    obtain ⟨e1,e2⟩:=ji (dst:=dst) (aft:=aft) hg hw k1
    obtain ⟨a1,a2,a3,a4,a5⟩:=U7 k1
    have tx: ∀ {id},qp (x.ev g.ts)=some id→Tch ρ wo id:=fun hid=>(x1 _ hid).up hwo (fun _ _ _ q=>q)
    have left: ∀ {id},Tch ρ wo id→Tch ρ (wo++ro) id:=fun q=>q.up (fun o ho=>List.mem_append_left _ ho) (fun _ _ _ q=>q)
    have hle:HLe g.hp (out.on g.hp):=by
     have hon:out.on g.hp=ye g.hp out.ws:=by unfold Out.on;rw [a4];rfl
     rw [hon];have: ∀(ws:List (Nat×Blk)) (H:zf),(∀w∈ws, ∀sz es,hat H w.1 ≠ .row sz es false)→(∀w∈ws, ∀w'∈ws, ∀sz es,w'.2 ≠ .row sz es false)→HLe H (ye H ws):=by
      intro ws;induction ws with
      | nil=>intro H _ _;exact HLe.refl _
      | cons w ws ih=>
       intro H h1 h2;have s1:HLe H (H.set w.1 w.2):=jg (fun sz es=>h1 w (by simp) sz es)
       refine s1.tr (ih (H.set w.1 w.2) (fun w' hw' sz es hq=> ?_) (fun a ha b hb=>h2 a (by simp [ha]) b (by simp [hb])))
       rcases Nat.lt_or_ge w.1 H.length with hl | hl
       ·rw [zp hl] at hq;split at hq
        ·exact h2 w (by simp) w (by simp) sz es hq
        ·exact h1 w' (by simp [hw']) sz es hq
       ·rw [List.set_eq_of_length_le hl] at hq;exact h1 w' (by simp [hw']) sz es hq
     refine this out.ws g.hp a5 (fun w _ w' hw' sz es=> ?_)
     exact zb9 k1 w' hw' sz es
    have hdd:Dd g.hp (out.on g.hp):=Dd.of (GhH.refl _) (fun w hw=>by
     rcases a3 w hw with q | ⟨_,_,_,q⟩<;>rw [q]<;>simp)
    have fq:zgT ρ g.hp wo ro (zq (runN pr 0) b ⟨dst,.append sz by' x y,gu,aft,res⟩ g):=by
     rw [e2];exact ⟨rfl,fun id hid=>(a1 id hid).elim (fun q=>(y1 id q).imp (fun q=>q) (fun q=>q.up hwr (fun _ _ _ q=>q))) (fun q=> .inr (left (tx q.1))),(fun id hid=>by have hid:id∈out.fz:=hid;rw [a4] at hid;cases hid),fun id hid=>(a2 id hid).imp (fun q=>q) (fun q=>left (tx q.1)),fun id hid=>by
      obtain ⟨w,hw1,rfl⟩:=List.mem_map.mp hid
      exact (a3 w hw1).imp (fun q=>q) (fun q=>tx q.1)⟩
    cases hc:zW cd with
    | true=>
     obtain ⟨nw,hx2,hy2⟩:=k3o hc
     obtain ⟨hwo',hro'⟩:wo=os++ro0∧ro= []:=by
      rcases hcs with ⟨_,e1,e2⟩ | ⟨e,_,_⟩
      ·exact ⟨e1,e2⟩
      ·rw [hc] at e;cases e
     have tw: ∀w∈out.ws,Top ρ' wo w.1∨hat (out.on g.hp) w.1= .dead:=fun w hw=>by
      rcases nw w hw with q | ⟨o,q1,q2⟩
      ·exact .inr (JM k1 w hw q)
      ·exact .inl ⟨o,by simpa using q1,q2⟩
     obtain ⟨c1,c2⟩:=Ve k1
     obtain ⟨g2,q1,q2,q3,q4⟩: ∃g2:St,GhK ⟨yh g.ts dst out.d,out.on g.hp⟩ g2∧zc fr b N ρ' t' g2∧HLd (out.on g.hp) g2.hp∧ ∀id,qp (y.ev g.ts)=some id→hat g2.hp id= .dead:=by
      cases hyv:y.ev g.ts with
      | ref id off len=>
       obtain ⟨z1,z2,sz2,es2,z3⟩:=hy2 id off len hyv
       obtain ⟨r1,r2⟩:=k2.kill .dead z3 z1 z2
       have hlt:id<(out.on g.hp).length:=yB (by rw [z3];simp)
       refine ⟨⟨yh g.ts dst out.d,(out.on g.hp).set id .dead⟩,⟨rfl,by simp,fun j=> ?_⟩,r1,⟨r2.hle,fun j hj=> ?_⟩,fun id' hid=> ?_⟩
       ·show hat ((out.on g.hp).set id _) j=hat (out.on g.hp) j∨_
        rw [zp hlt];split
        ·rename_i e;subst e;exact .inr (.inr ⟨_,_,_,z3,rfl⟩)
        ·exact .inl rfl
       ·show hat ((out.on g.hp).set id _) j=_
        rw [zp hlt,if_neg (fun e=>by subst e;rw [z3] at hj;cases hj)]
        exact hj
       ·cases hid;show hat ((out.on g.hp).set id _) id=_
        rw [zp hlt,if_pos rfl]
      | ptr id off=>exact (zdX k1 hyv).elim
      | _=>exact ⟨_,GhK.refl _,k2,⟨HLe.refl _,Dd.refl _⟩,fun id' hid=>by cases hid⟩
     have tpd:TPd ρ ρ' g2.hp:=fun o' id e=>by
      cases hco:wo.contains o' with
      | false=>exact .inl (k3 o' [] _ hco e)
      | true=>
       right
       have hm:o'∈os++ro0:=by rw [←hwo'];simpa using hco
       rcases List.mem_append.mp hm with hm | hm
       ·obtain ⟨off,len,ex⟩:=za7 ho (h.ev hv) hm e
        exact q3.2 id (hx2 id off len ex)
       ·obtain ⟨off,len,ey⟩:=za7 (hao hc) (h.ev hw') hm e
        exact q4 id (by rw [ey];rfl)
     refine ⟨_,t',g2,ρ',e1,k4,q1,q2,k3,fun _=>tpd,⟨hle.tr q3.1,fun id e=>q3.2 id (hdd id e)⟩,fq,?_⟩
     intro x hx
     cases hx;rw [e2];have tw2: ∀w∈out.ws,Top ρ' wo w.1∨hat g2.hp w.1= .dead:=fun w hw=>(tw w hw).imp (fun z=>z) (q3.2 w.1)
     refine ⟨rfl,fun id hid=> ?_,(fun id hid=>by have hid:id∈out.fz:=hid;rw [a4] at hid;cases hid),fun id hid=> ?_,fun id hid=> ?_⟩
     ·rcases c1 id hid with q | ⟨w,hw,rfl⟩
      ·exact .inr (.inr (.inr (q4 id q)))
      ·exact .inr ((tw2 w hw).imp (fun z=>z) .inr)
     ·obtain ⟨w,hw,rfl⟩:=c2 id hid
      exact (tw2 w hw).imp (fun z=>z) .inr
     ·obtain ⟨w,hw,rfl⟩:=List.mem_map.mp hid
      exact tw2 w hw
    | false=>
    refine ⟨_,t',_,ρ',e1,k4,GhK.refl _,k2,k3,fun e=>(k3' hc).2,⟨hle,hdd⟩,fq,?_⟩
    ·intro x hx
     cases hdis:ZN ro wo with
     | false=>rw [hdis] at hx;cases hx
     | true=>
     rw [hdis] at hx
     cases hx;rw [e2];obtain ⟨nw,_⟩:=k3' hc
     obtain ⟨hwo',hro'⟩:wo=os∧ro=ro0:=by
      rcases hcs with ⟨e,_,_⟩ | ⟨_,e1,e2⟩
      ·rw [hc] at e;cases e
      ·exact ⟨e1,e2⟩
     have inN: ∀o,(wo.contains o=true∨(wo= []∧o=t.nx))→o∈woN t.nx wo:=by
      intro o ho;rcases ho with ho | ⟨ho,rfl⟩
      ·cases wo with
       | nil=>simp at ho
       | cons a l=>simpa [woN] using ho
      ·rw [ho];simp [woN]
     have roT: ∀ {id},Tch ρ ro0 id→Tch ρ' ro id:=fun ⟨o,q1,p,q2⟩=>⟨o,by rw [hro'];exact q1,p,k3 _ _ _ (by
      have:=List.all_eq_true.mp hdis o (by rw [hro'];exact q1)
      simpa using this) q2⟩
     have tw: ∀w∈out.ws,Top ρ' (woN t.nx wo) w.1∨hat (out.on g.hp) w.1= .dead:=fun w hw=>by
      rcases nw w hw with q | ⟨o,q1,q2⟩
      ·exact .inr (JM k1 w hw q)
      ·exact .inl ⟨o,inN o q1,q2⟩
     obtain ⟨c1,c2⟩:=Ve k1
     refine ⟨rfl,fun id hid=> ?_,(fun id hid=>by have hid:id∈out.fz:=hid;rw [a4] at hid;cases hid),fun id hid=> ?_,fun id hid=> ?_⟩
     ·rcases c1 id hid with q | ⟨w,hw,rfl⟩
      ·exact (y1 id q).imp (qd hle) (fun z=> .inr (.inl (roT z)))
      ·exact .inr ((tw w hw).imp (fun z=>z) .inr)
     ·obtain ⟨w,hw,rfl⟩:=c2 id hid
      exact (tw w hw).imp (fun z=>z) .inr
     ·obtain ⟨w,hw,rfl⟩:=List.mem_map.mp hid
      exact tw w hw
  ·cases hl
 ·rename_i sz n z ps;split at hl
  ·rename_i hc
   cases hl;unfold stepT at hr;split at hr
   ·cases hr
   ·rename_i hd;have hr:op1 dst res cd (.buildSlice sz n z ps) t K=some r:=hr
    have hp:yK t (.buildSlice sz n z ps)=none:=rfl
    unfold op1 at hr;rw [hp] at hr;have got:zeB t.nx (moB t ps) ρ fr b N g (.buildSlice sz n z ps) res dst (fun t'=>K t'=some r):=by
     simp only at hr
     split at hr
     ·split at hr
      ·exact QJ h hd hr
      ·exact QK h hd hr
     ·rename_i hno;exfalso
      cases cd<;>first | (cases hc;done) | exact hno _ rfl
    obtain ⟨out,ρ',t',k1,k2,⟨k3,k3'⟩,k4⟩:=got (runN pr 0)
    obtain ⟨e1,e2⟩:=ji (dst:=dst) (aft:=aft) hg hw k1
    obtain ⟨a1,a2,a3,a4,_⟩:=Je (op:= .buildSlice sz n z ps) rfl k1
    have hf:=VH (op:= .buildSlice sz n z ps) rfl k1
    have w1: ∀w∈out.ws,w.1=b+res:=fun w hw=>by
     rcases a3 w hw with ⟨e,_⟩ | ⟨_,hx,_⟩
     ·exact e
     ·cases hx
    have l1: ∀id∈(opE (runN pr 0) (PX.ev g.ts) (b+res) (.buildSlice sz n z ps)).lv g.hp,id=b+res:=fun id hid=>by
     rcases a2 id hid with ⟨e,_⟩ | ⟨_,hx,_⟩
     ·exact e
     ·cases hx
    have hws:=zgj k1
    have tw:ρ' t.nx []=some (some (b+res)):=by
     obtain ⟨w,hw⟩:=hws
     have:=k3' w hw
     rwa [w1 w hw] at this
    have hdd:Dd g.hp (out.on g.hp):=Dd.of (GhH.refl _) (fun w hw=>by rw [w1 w hw,hf];simp)
    have hle:HLe g.hp (out.on g.hp):=by
     have hon:out.on g.hp=ye g.hp out.ws:=by unfold Out.on;rw [a4];rfl
     rw [hon];intro id sz' es' q;rw [jN _ _ _ (fun w hw e=>by rw [←e,w1 w hw,hf] at q;cases q)]
     exact q
    refine ⟨_,t',_,ρ',e1,k4,GhK.refl _,k2,k3,fun e=>(by cases e),⟨hle,hdd⟩,?_,?_⟩
    ·rw [e2];exact ⟨rfl,fun id hid=>(by obtain ⟨_,hx,_⟩:=a1 id hid;cases hx),(fun id hid=>by have hid:id∈out.fz:=hid;rw [a4] at hid;cases hid),fun id hid=> .inl (by rw [l1 id hid];exact hf),fun id hid=> .inl (by
      obtain ⟨w,hw,rfl⟩:=List.mem_map.mp hid
      rw [w1 w hw];exact hf)⟩
    ·intro x hx
     cases hx;rw [e2];exact ⟨rfl,fun id hid=>(by obtain ⟨_,hx,_⟩:=a1 id hid;cases hx),(fun id hid=>by have hid:id∈out.fz:=hid;rw [a4] at hid;cases hid),fun id hid=> .inl ⟨t.nx,by simp,by rw [l1 id hid];exact tw⟩,fun id hid=> .inl ⟨t.nx,by simp,by
      obtain ⟨w,hw,rfl⟩:=List.mem_map.mp hid
      rw [w1 w hw];exact tw⟩⟩
  ·cases hl
 ·cases hl
def UK (Γ:List (zQ S pr)):POp→Option (Ent S pr×List (Nat×PX))
 | .call f args=>(match Y4 Γ f with
  | some (.plain e)=>some (e,args)
  | _=>none)
 | _=>none
def zbS (e:Ent S pr)(dst:Option Nat)(res:Nat)(args:List (Nat×PX))(t:TS S)(K:TS S→Option α):Option α:=match qu (UU t []) false e.ps args with
 | some p=>(e.F p).bind fun r=>match jX e.rs r res t with
  | some q=>K (q.2.putD dst (VX e.rs q.1))
  | none=>none
 | none=>none
theorem zd9 (h:zc fr b N ρ t g){Γ:List (zQ S pr)}{op:POp}{e:Ent S pr}{args:List (Nat×PX)}(hp:UK Γ op=some (e,args)){dst:Option Nat}(hd:yk N dst=true){res:Nat}{gu:Option (Nat×Bool)}(hg:zN g.ts gu=true)(hw:zu g.ts gu=true){aft:List Nat}{K:TS S→Option α}{r:α}(hr:zbS e dst res args t K=some r) :
  ∃n g1 t' g2 ρ',zD (runN pr n) b ⟨dst,op,gu,aft,res⟩ g=some g1∧K t'=some r∧GhK g1 g2∧zc fr b N ρ' t' g2∧(∀o p x,ρ o p=some x→ρ' o p=some x)∧HLd g.hp g2.hp∧zgT ρ g.hp [] [] (zq (runN pr n) b ⟨dst,op,gu,aft,res⟩ g)∧(YR e.rs=true→Xm ρ' g2.hp [t.nx] [] (zq (runN pr n) b ⟨dst,op,gu,aft,res⟩ g)):=by
 unfold UK at hp;split at hp
 ·rename_i f args';split at hp
  ·rename_i e' he
   cases hp;unfold zbS at hr;split at hr
   ·rename_i p hpa;simp only [Option.bind_eq_some_iff] at hr;obtain ⟨v,hv,hr⟩:=hr
    split at hr
    ·rename_i q hq;have hc:=h.clear (P:=fun o _ => !([]:List Nat).contains o) (fun _ _ q=>q)
     obtain ⟨ds,ids,p1,p2,p3⟩:=qS hc (j:=0) hpa
     have p3': ∀y∈ids,dead g.hp y:=fun y hy=>by
      rcases p3 y hy with q | ⟨q,_⟩
      ·exact q
      ·cases q
     obtain ⟨n,d,H',r1,r2,xs,hh,rd,e1,e2,e3,e4⟩:=e.ok p v hv ds p2
     obtain ⟨g',ρ',k1,k2,k3,k4,k5⟩:=jq (k:=res) e4 (GhK.refl g) h hq
     have hl:(zA (b+res) xs).1.length=e.rs.length:=by
      have: ∀ {l:List D} {r:Nat},(zA r l).1.length=l.length:=by
       intro l;induction l with
       | nil=>intro r;rfl
       | cons d l ih=>intro r;simp [zA,ih]
      rw [this,e4.len]
     have h1:(hh.all fun x => !rd.contains x)=true:=e3
     have h2:(hh.all fun x => !([]:List Nat).contains x)=true:=by simp
     have hrun:(zX (runN pr n) (b+res) f (args.map fun p=>(p.1,p.2.ev g.ts))).run g.hp=some ⟨qa d (zA (b+res) xs).1,(zA (b+res) xs).2,if xs.all qE=true then [] else ids⟩:=by
      rw [←show e.f=f from yS he];simp only [zX,ze,p1,Option.bind_some,List.map_nil,zP,apart,List.all_nil,Bool.and_self,if_true,r1,finish,e1,ZJ,yL];simp only [e2,List.isEmpty_nil,Bool.true_and,List.nil_append];simp only [h1,h2,Bool.and_self,if_true];rw [j1 k5];rfl
     have hfz: ∀y∈(if xs.all qE=true then [] else ids),dead g.hp y:=fun y hy=>by
      split at hy
      ·cases hy
      ·exact p3' y hy
     have hon:Out.on ⟨qa d (zA (b+res) xs).1,(zA (b+res) xs).2,if xs.all qE=true then [] else ids⟩ g.hp=ye g.hp (zA (b+res) xs).2:=by
      have hle2:HLe g.hp (ye g.hp (zA (b+res) xs).2):=fun id sz es hq=>by
       rw [jN _ _ _ (fun w hw e=>by
        have:=(k5 w.1 (List.mem_map.mpr ⟨w,hw,rfl⟩)).1
        rw [e,hq] at this;cases this)]
       exact hq
      exact Zc fun j hj=>qd hle2 (hfz j hj)
     obtain ⟨q1,q2⟩:=ji (op:= .call f args) (dst:=dst) (aft:=aft) (res:=res) hg hw hrun
     rw [hon] at q1;refine ⟨n,_,_,_,ρ',q1,hr,Xz (o:=⟨qa d (zA (b+res) xs).1,(zA (b+res) xs).2,[]⟩) k1,k2.putD hd (Xy r2 hl k4),k3.map,⟨k3.hle,Dd.of (o:=⟨qa d (zA (b+res) xs).1,(zA (b+res) xs).2,[]⟩) k1.hp (fun w hw=>by
       rw [(k5 w.1 (List.mem_map.mpr ⟨w,hw,rfl⟩)).1];simp)⟩,?_⟩
     rw [q2];have hz: ∀a∈args.map (fun p=>(p.1,p.2.ev g.ts)),a.1=0:=fun a ha=>by
      obtain ⟨y,hy,rfl⟩:=List.mem_map.mp ha
      exact qj hpa y hy
     have hcont:(zX (runN pr n) (b+res) f (args.map fun p=>(p.1,p.2.ev g.ts))).rd g.hp=(qX (args.map fun p=>(p.1,p.2.ev g.ts)) 0).rd g.hp∧(zX (runN pr n) (b+res) f (args.map fun p=>(p.1,p.2.ev g.ts))).lv g.hp=(qX (args.map fun p=>(p.1,p.2.ev g.ts)) 0).lv g.hp++(zA (b+res) xs).2.map (·.1):=by
      rw [←show e.f=f from yS he];unfold zX;rw [(zG p1).1,(zG p1).2];simp only [List.map_nil,zP,apart,List.all_nil,Bool.and_self,if_true,r1,finish,e1,ZJ,yL,Option.bind_some];simp only [e2,List.isEmpty_nil,Bool.true_and,List.nil_append];simp only [h1,h2,Bool.and_self,if_true];rw [Zo.1,Zo.2,List.append_nil];exact ⟨rfl,rfl⟩
     obtain ⟨m1,m2⟩:=Qb hz p1
     have hrd: ∀y∈(zX (runN pr n) (b+res) f (args.map fun p=>(p.1,p.2.ev g.ts))).rd g.hp,dead g.hp y:=fun y hy=>by
      rw [hcont.1] at hy;exact p3' y (m1 y hy)
     have hlv: ∀y∈(zX (runN pr n) (b+res) f (args.map fun p=>(p.1,p.2.ev g.ts))).lv g.hp,y∈(zA (b+res) xs).2.map (·.1):=fun y hy=>by
      rw [hcont.2,m2,List.nil_append] at hy;exact hy
     refine ⟨⟨rfl,fun y hy=> .inl (hrd y hy),fun y hy=>hfz y hy,fun y hy=> .inl (k5 y (hlv y hy)).1,fun y hy=> .inl (k5 y hy).1⟩,fun ho=> ?_⟩
     have hnew:=zcS ho e4 hq k4
     have top: ∀id∈(zA (b+res) xs).2.map (·.1),Top ρ' [t.nx] id:=zg6 ho e4 hq k4
     exact ⟨rfl,fun y hy=> .inl (qd k3.hle (hrd y hy)),fun y hy=>qd k3.hle (hfz y hy),fun y hy=> .inl (top y (hlv y hy)),fun y hy=> .inl (top y hy)⟩
    ·cases hr
   ·cases hr
  ·cases hp
 ·cases hp
abbrev SnK:=List (Nat×Option ((List Nat×List Nat)×Bool))
def Zn (aft:List Nat)(wo ro:List Nat)(seen:SnK):Bool:=seen.all fun p=>aft.contains p.1 || (match p.2 with
 | some ((wo',ro'),_)=>ZN wo' (wo++ro)&&ZN wo (wo'++ro')
 | none=>false)
def zfF (aft:List Nat)(seen:SnK):Bool:=seen.all fun p=>aft.contains p.1
def fgK (seen:SnK):SnK:=seen.map fun p=>(p.1,none)
def zcr (mo:List Nat)(tp:Bool):Option ((List Nat×List Nat)×Bool)→Option ((List Nat×List Nat)×Bool)
 | some ((wo,ro),m)=>(match ZN (wo++ro) mo with
  | true=>some ((wo,ro),m)
  | false=>(match m&&tp&&ZN ro mo with
   | true=>some ((wo,ro),m)
   | false=>none))
 | none=>none
def fgO (mo:List Nat)(tp:Bool)(seen:SnK):SnK:=seen.map fun p=>(p.1,zcr mo tp p.2)
def zeu (Γ:List (zQ S pr))(N:Nat)(o:AOD)(i:Nat)(seen:SnK)(t:TS S)(K:SnK→TS S→Option α):Option α:=match zeP Γ t o.op with
 | some ob=>(match Zn o.aft [ob] [] seen with
  | true=>stepT Γ N o.dst o.res o.cd o.op t fun t=>K ((i,some (([ob],[]),false))::seen) t
  | false=>none)
 | none=>(match yk N o.dst with
  | false=>none
  | true=>(match UJ Γ o.op with
   | some (e,args)=>(match Zn o.aft (woC t.nx e.rs) (zdq t args) seen with
    | true=>zbR e o.dst o.res args t fun t'=>K ((i,some ((woC t.nx e.rs,zdq t args),false))::seen) t'
    | false=>none)
   | none=>(match ziu t o.cd o.op with
    | some .q=>zdk o.dst o.res o.cd o.op t fun t=>K seen t
    | some (.s wo ro)=>(match Zn o.aft wo ro seen with
     | true=>zdk o.dst o.res o.cd o.op t fun t=>K ((i,some ((wo,ro),false))::seen) t
     | false=>none)
    | some (.n x)=>(match Zn o.aft [x] [] seen with
     | true=>zdk o.dst o.res o.cd o.op t fun t=>K ((i,some (([x],[]),true))::seen) t
     | false=>none)
    | none=>(match spX t o.cd o.op with
     | some X=>(match Zn o.aft X.wo X.ro seen with
      | true=>stepT Γ N o.dst o.res o.cd o.op t fun t'=>K ((i,X.ent)::fgO X.mo X.tp seen) t'
      | false=>none)
     | none=>(match UK Γ o.op with
      | some (e,args)=>(match ziJ (qu (UU t []) false e.ps args) with
       | true=>(match Zn o.aft [] [] seen with
        | true=>zbS e o.dst o.res args t fun t'=>K ((i,match YR e.rs with
         | true=>some (([t.nx],[]),true)
         | false=>none)::seen) t'
        | false=>none)
       | false=>(match zfF o.aft seen with
        | true=>stepT Γ N o.dst o.res o.cd o.op t fun t=>K ((i,none)::fgK seen) t
        | false=>none))
      | none=>(match zfF o.aft seen with
       | true=>stepT Γ N o.dst o.res o.cd o.op t fun t=>K ((i,none)::fgK seen) t
       | false=>none))))))
def dG (Γ:List (zQ S pr))(N:Nat)(o:AOD)(i:Nat)(seen:SnK)(t:TS S)(K:SnK→TS S→Option α):Option α:=match o.gu with
 | none=>zeu Γ N o i seen t K
 | some (gt,gb)=>(match look t.sl gt,yk N o.dst&&Nat.blt gt N with
  | some .skip,true=>K seen (t.putD o.dst .skip)
  | some (.one _ .bool v),true=>cond v (match gb with
    | true=>zeu Γ N o i seen (t.put gt (yR true)) K
    | false=>K seen ((t.put gt (yR true)).putD o.dst .skip))
   (match gb with
    | true=>K seen ((t.put gt (yR false)).putD o.dst .skip)
    | false=>zeu Γ N o i seen (t.put gt (yR false)) K)
  | _,_=>none)
def zci (Γ:List (zQ S pr))(N:Nat):List AOD→Nat→SnK→TS S→(TS S→Option α)→Option α
 | [],_,_,t,K=>K t
 | o::os,i,seen,t,K=>dG Γ N o i seen t fun seen t=>zci Γ N os (i+1) seen t K
def SnR (ρ:Rho)(H:zf)(sn:List (Nat×Fp))(seen:SnK):Prop:= ∀p∈sn,Jp p.2 ∨ ∃tg,(p.1,tg)∈seen∧match tg with
 | some x=>JQ ρ H x p.2
 | none=>True
theorem SnR.up {sn:List (Nat×Fp)}{seen:SnK}(h:SnR ρ H sn seen)(hm: ∀o p x,ρ o p=some x→ρ' o p=some x)(hh:HLd H H'):SnR ρ' H' sn seen:=fun p hp=>by
 rcases h p hp with q | ⟨tg,q1,q2⟩
 ·exact .inl q
 ·refine .inr ⟨tg,q1,?_⟩
  cases tg with
  | none=>trivial
  | some x=>exact JQ.up q2 (fun o p x _=>hm o p x) hh
theorem Zd {f g:Fp}(h:Jp f):clash f g=false:=by
 rw [h];have: ∀xs:List Nat,meets xs []=false:=fun xs=>by induction xs<;>simp_all [meets]
 simp [clash,Fp.idle,this,show ∀xs:List Nat,meets [] xs=false from fun _=>rfl]
theorem VQ {f g:Fp}(h:Jp g):clash f g=false:=by
 rw [h];have: ∀xs:List Nat,meets xs []=false:=fun xs=>by induction xs<;>simp_all [meets]
 simp [clash,Fp.idle,this,show ∀xs:List Nat,meets [] xs=false from fun _=>rfl]
theorem zof {wo ro:List Nat}{f:Fp}(h:TgR ρ H (.s wo ro) f):Xn ρ H wo ro f:=V3.toG h
theorem JV (h:zc fr b N ρ t g){sn:List (Nat×Fp)}{seen:SnK}(hs:SnR ρ g.hp sn seen){aft:List Nat}{wo ro:List Nat}{f:Fp}(hf:V3 ρ g.hp wo ro f)(hk:Zn aft wo ro seen=true):(sn.all fun p=>aft.contains p.1 || !clash p.2 f)=true:=by
 rw [List.all_eq_true];intro p hp;rcases hs p hp with q | ⟨tg,q1,q2⟩
 ·rw [Zd q];simp
 ·have:=List.all_eq_true.mp hk _ q1
  simp only [Bool.or_eq_true] at this;rcases this with q | q
  ·rw [q];rfl
  ·cases tg with
   | none=>cases q
   | some x=>rw [zd5 h (JQ.toG q2) hf q];simp
theorem jU.ghK {os:List PO}{i:Nat}{sn:List (Nat×Fp)}{Q:St→Prop}(h:GhK s g)(k:jU pr b os i sn g Q):jU pr b os i sn s (fun s'=> ∃g',GhK s' g'∧Q g'):=by
 obtain ⟨n,g',k1,k2⟩:=k
 obtain ⟨s',k3,k4⟩:=UI (Y9 pr n) h k1
 exact ⟨n,s',k3,g',k4,k2⟩
theorem jU.consK {o:PO}{os:List PO}{i m:Nat}{sn:List (Nat×Fp)}{s1:St}{Q:St→Prop}(h:zD (runN pr m) b o s=some s1)(hf:(sn.all fun p=>o.after.contains p.1 || !clash p.2 (zq (runN pr m) b o s))=true)
  (k:jU pr b os (i+1) ((i,zq (runN pr m) b o s)::sn) s1 Q):jU pr b (o::os) i sn s Q:=by
 obtain ⟨j,s',h3,h4⟩:=k
 obtain ⟨e1,e2⟩:=Zr (yE pr (Nat.le_max_left m j)) h
 refine ⟨max m j,s',?_,h4⟩
 simp only [YA,e1,e2,Option.bind_some,hf,if_true];exact Jb (yE pr (Nat.le_max_right m j)) h3
def Did (pr:yn)(fr:Fr)(b N:Nat)(o:AOD)(i:Nat)(sn:List (Nat×Fp))(g:St)(K:SnK→TS S→Option α)(r:α):Prop:=
 ∃n g1 t' g2 ρ' seen',zD (runN pr n) b o.er g=some g1∧(sn.all fun p=>o.aft.contains p.1 || !clash p.2 (zq (runN pr n) b o.er g))=true∧K seen' t'=some r∧GhK g1 g2∧zc fr b N ρ' t' g2∧SnR ρ' g2.hp ((i,zq (runN pr n) b o.er g)::sn) seen'
theorem UT (h:zc fr b N ρ t g){Γ:List (zQ S pr)}{o:AOD}(hg:zN g.ts o.gu=true)(hw:zu g.ts o.gu=true){i:Nat}{seen:SnK}{sn:List (Nat×Fp)}(hs:SnR ρ g.hp sn seen){K:SnK→TS S→Option α}{r:α}(hr:zeu Γ N o i seen t K=some r):Did pr fr b N o i sn g K r:=by
 unfold zeu at hr;split at hr
 ·rename_i ob hob;split at hr
  ·rename_i hk;obtain ⟨n,g1,t',g2,ρ',k1,k2,k3,k4,k5,k6,k7⟩:=zf9 (aft:=o.aft) h hg hw hob hr
   have hs':=hs.up k5 k6
   refine ⟨n,g1,t',g2,ρ',_,k1,JV k4 hs' k7 hk,k2,k3,k4,fun p hp=> ?_⟩
   rcases List.mem_cons.mp hp with rfl | hp
   ·exact .inr ⟨some (([ob],[]),false),by simp,k7.toG⟩
   ·rcases hs' p hp with q | ⟨tg,q1,q2⟩
    ·exact .inl q
    ·exact .inr ⟨tg,by simp [q1],q2⟩
  ·cases hr
 ·split at hr
  ·cases hr
  ·rename_i hd;split at hr
   ·rename_i e args hpl;split at hr
    ·rename_i hk;obtain ⟨n,g1,t',g2,ρ',k1,k2,k3,k4,k5,k6,k7⟩:=zd8 (aft:=o.aft) h hpl hd hg hw hr
     have hs':=hs.up k5 k6
     refine ⟨n,g1,t',g2,ρ',_,k1,JV k4 hs' k7 hk,k2,k3,k4,fun p hp=> ?_⟩
     rcases List.mem_cons.mp hp with rfl | hp
     ·exact .inr ⟨some ((woC t.nx e.rs,zdq t args),false),by simp,k7.toG⟩
     ·rcases hs' p hp with q | ⟨tg,q1,q2⟩
      ·exact .inl q
      ·exact .inr ⟨tg,by simp [q1],q2⟩
    ·cases hr
   ·split at hr
    ·rename_i htg;obtain ⟨g1,t',ρ',k1,k2,k3,k4,k5,k6⟩:=XJ (pr:=pr) (aft:=o.aft) h hd hg hw (UG htg) hr
     have hs':=hs.up k4 k5
     refine ⟨0,g1,t',g1,ρ',_,k1,?_,k2,GhK.refl _,k3,fun p hp=> ?_⟩
     ·rw [List.all_eq_true];intro p hp;show (o.aft.contains p.1 || !clash p.2 (zq (runN pr 0) b ⟨o.dst,o.op,o.gu,o.aft,o.res⟩ g))=true
      rw [VQ k6];simp
     ·rcases List.mem_cons.mp hp with rfl | hp
      ·exact .inl k6
      ·exact hs' p hp
    ·rename_i wo ro htg;split at hr
     ·rename_i hk;obtain ⟨g1,t',ρ',k1,k2,k3,k4,k5,k6⟩:=XJ (pr:=pr) (aft:=o.aft) h hd hg hw (UG htg) hr
      have hs':=hs.up k4 k5
      refine ⟨0,g1,t',g1,ρ',_,k1,JV k3 hs' k6 hk,k2,GhK.refl _,k3,fun p hp=> ?_⟩
      rcases List.mem_cons.mp hp with rfl | hp
      ·exact .inr ⟨some ((wo,ro),false),by simp,zof k6⟩
      ·rcases hs' p hp with q | ⟨tg,q1,q2⟩
       ·exact .inl q
       ·exact .inr ⟨tg,by simp [q1],q2⟩
     ·cases hr
    ·rename_i x htg;split at hr
     ·rename_i hk;obtain ⟨g1,t',ρ',k1,k2,k3,k4,k5,k6⟩:=XJ (pr:=pr) (aft:=o.aft) h hd hg hw (UG htg) hr
      have hs':=hs.up k4 k5
      refine ⟨0,g1,t',g1,ρ',_,k1,JV k3 hs' k6.1 hk,k2,GhK.refl _,k3,fun p hp=> ?_⟩
      rcases List.mem_cons.mp hp with rfl | hp
      ·exact .inr ⟨some (([x],[]),true),by simp,k6.2⟩
      ·rcases hs' p hp with q | ⟨tg,q1,q2⟩
       ·exact .inl q
       ·exact .inr ⟨tg,by simp [q1],q2⟩
     ·cases hr
    ·split at hr
     ·rename_i X hap;split at hr
      ·rename_i hk;obtain ⟨g1,t',g2,ρ',k1,k2,kg,k3,k4,k4',k5,k6,k7⟩:=zjm (pr:=pr) (aft:=o.aft) h hg hw hap hr
       refine ⟨0,g1,t',g2,ρ',_,k1,?_,k2,kg,k3,fun p hp=> ?_⟩
       ·rw [List.all_eq_true];intro p hp;rcases hs p hp with q | ⟨tg,q1,q2⟩
        ·rw [Zd q];simp
        ·have:=List.all_eq_true.mp hk _ q1
         simp only [Bool.or_eq_true] at this;rcases this with q | q
         ·rw [q];rfl
         ·cases tg with
          | none=>cases q
          | some x=>
           have:=VR h (JQ.toG q2) k6 q
           show (o.aft.contains p.1 || !clash p.2 (zq (runN pr 0) b ⟨o.dst,o.op,o.gu,o.aft,o.res⟩ g))=true
           rw [this];simp
       ·rcases List.mem_cons.mp hp with rfl | hp
        ·refine .inr ⟨X.ent,by simp,?_⟩
         cases hX:X.ent with
         | none=>trivial
         | some x=>exact k7 x hX
        ·rcases hs p hp with q | ⟨tg,q1,q2⟩
         ·exact .inl q
         ·refine .inr ⟨zcr X.mo X.tp tg,List.mem_cons_of_mem _ (List.mem_map.mpr ⟨_,q1,rfl⟩),?_⟩
          cases tg with
          | none=>trivial
          | some x=>
           obtain ⟨⟨wo',ro'⟩,m⟩:=x
           have mvr: ∀ {l:List Nat},ZN l X.mo=true→ ∀o p y,o∈l→ρ o p=some y→ρ' o p=some y:=fun hd o p y ho hy=>k4 _ _ _ (by
            have:=List.all_eq_true.mp hd o ho
            simpa using this) hy
           cases hdj:ZN (wo'++ro') X.mo with
           | true=>
            simp only [zcr,hdj];exact JQ.up q2 (mvr hdj) k5
           | false=>
            simp only [zcr,hdj]
            cases hm:m&&X.tp&&ZN ro' X.mo with
            | false=>trivial
            | true=>
             simp only [Bool.and_eq_true] at hm;obtain ⟨⟨rfl,e2⟩,e3⟩:=hm
             exact Xm.tp (mo:= []) q2 (fun o id _ e=>k4' e2 o id e) (mvr e3) k5
      ·cases hr
     ·split at hr
      ·rename_i e args hpl;split at hr
       ·split at hr
        ·rename_i hk;obtain ⟨n,g1,t',g2,ρ',k1,k2,kg,k3,k4,k5,k6,k7⟩:=zd9 (aft:=o.aft) h hpl hd hg hw hr
         refine ⟨n,g1,t',g2,ρ',_,k1,?_,k2,kg,k3,fun p hp=> ?_⟩
         ·rw [List.all_eq_true];intro p hp;rcases hs p hp with q | ⟨tg,q1,q2⟩
          ·rw [Zd q];simp
          ·have:=List.all_eq_true.mp hk _ q1
           simp only [Bool.or_eq_true] at this;rcases this with q | q
           ·rw [q];rfl
           ·cases tg with
            | none=>cases q
            | some x=>
             have:=VR h (JQ.toG q2) k6 q
             show (o.aft.contains p.1 || !clash p.2 (zq (runN pr n) b ⟨o.dst,o.op,o.gu,o.aft,o.res⟩ g))=true
             rw [this];simp
         ·rcases List.mem_cons.mp hp with rfl | hp
          ·cases ho:YR e.rs with
           | true=>exact .inr ⟨some (([t.nx],[]),true),by simp,k7 ho⟩
           | false=>exact .inr ⟨none,by simp,trivial⟩
          ·rcases hs.up k4 k5 p hp with q | ⟨tg,q1,q2⟩
           ·exact .inl q
           ·exact .inr ⟨tg,List.mem_cons_of_mem _ q1,q2⟩
        ·cases hr
       ·split at hr
        ·rename_i hk;obtain ⟨n,g1,k1,t',k2,g2,ρ2,k3,k4⟩:=Z0 (aft:=o.aft) h hg hw hr
         refine ⟨n,g1,t',g2,ρ2,_,k1,?_,k2,k3,k4,fun p hp=> ?_⟩
         ·rw [List.all_eq_true];intro p hp;rcases hs p hp with q | ⟨tg,q1,q2⟩
          ·rw [Zd q];simp
          ·have:=List.all_eq_true.mp hk _ q1
           rw [this];rfl
         ·rcases List.mem_cons.mp hp with rfl | hp
          ·exact .inr ⟨none,by simp,trivial⟩
          ·rcases hs p hp with q | ⟨tg,q1,q2⟩
           ·exact .inl q
           ·exact .inr ⟨none,List.mem_cons_of_mem _ (List.mem_map.mpr ⟨_,q1,rfl⟩),trivial⟩
        ·cases hr
      ·split at hr
       ·rename_i hk;obtain ⟨n,g1,k1,t',k2,g2,ρ2,k3,k4⟩:=Z0 (aft:=o.aft) h hg hw hr
        refine ⟨n,g1,t',g2,ρ2,_,k1,?_,k2,k3,k4,fun p hp=> ?_⟩
        ·rw [List.all_eq_true];intro p hp;rcases hs p hp with q | ⟨tg,q1,q2⟩
         ·rw [Zd q];simp
         ·have:=List.all_eq_true.mp hk _ q1
          rw [this];rfl
        ·rcases List.mem_cons.mp hp with rfl | hp
         ·exact .inr ⟨none,by simp,trivial⟩
         ·rcases hs p hp with q | ⟨tg,q1,q2⟩
          ·exact .inl q
          ·exact .inr ⟨none,List.mem_cons_of_mem _ (List.mem_map.mpr ⟨_,q1,rfl⟩),trivial⟩
       ·cases hr
theorem zoc (h:zc fr b N ρ t g){Γ:List (zQ S pr)}{o:AOD}{i:Nat}{seen:SnK}{sn:List (Nat×Fp)}(hs:SnR ρ g.hp sn seen){K:SnK→TS S→Option α}{r:α}(hr:dG Γ N o i seen t K=some r):Did pr fr b N o i sn g K r:=by
 unfold dG at hr;split at hr
 ·rename_i e;exact UT h (by rw [e];rfl) (by rw [e];rfl) hs hr
 ·rename_i gt gb e;have skip: ∀ {t1:TS S},zN g.ts o.gu=true→zu g.ts o.gu=false→zc fr b N ρ t1 g→yk N o.dst=true→K seen (t1.putD o.dst .skip)=some r→Did pr fr b N o i sn g K r:=by
   intro t1 hg hw h1 hd hk;have e1:zD (runN pr 0) b o.er g=some ⟨yh g.ts o.dst .skip,g.hp⟩:=by
    unfold zD;simp only [AOD.er,hg,hw,if_true,Bool.false_eq_true,if_false]
   have e2:Jp (zq (runN pr 0) b o.er g):=by
    unfold zq Jp;simp only [AOD.er,hw,Bool.false_eq_true,if_false]
   refine ⟨0,_,_,_,ρ,seen,e1,?_,hk,GhK.refl _,h1.putD hd (show VS ρ g.hp .skip .skip from rfl),fun p hp=> ?_⟩
   ·rw [List.all_eq_true];intro p hp;rw [VQ e2];simp
   ·rcases List.mem_cons.mp hp with rfl | hp
    ·exact .inl e2
    ·exact hs p hp
  split at hr
  ·rename_i hsl hd;simp only [Bool.and_eq_true] at hd;have ev:g.ts.getD gt .undef= .skip:=h.sl _ _ hsl
   exact skip (by rw [e];simp only [zN,ev]) (by rw [e];simp only [zu,ev]) h hd.1 hr
  ·rename_i m v hsl hd;simp only [Bool.and_eq_true] at hd;have hi:gt<N:=by simpa using hd.2
   have ev:g.ts.getD gt .undef= .bool v:=(show Cl g.hp m (.bool v) _ from (h.sl _ _ hsl).1).sc rfl
   have hput: ∀w:Bool,v=w→zc fr b N ρ (t.put gt (yR w)) g:=fun w hw=>by
    subst hw;have:=h.put hi (qc (S:=S) (ρ:=ρ) (H:=g.hp) v)
    rw [Qm (by rw [h.len];exact hi) ev] at this
    exact this
   have hok:zN g.ts o.gu=true:=by rw [e];simp only [zN,ev]
   cases v with
   | true=>
    simp only [cond_true] at hr
    cases gb with
    | true=>exact UT (hput true rfl) hok (by rw [e];simp only [zu,ev];rfl) hs hr
    | false=>exact skip hok (by rw [e];simp only [zu,ev];rfl) (hput true rfl) hd.1 hr
   | false=>
    simp only [cond_false] at hr
    cases gb with
    | true=>exact skip hok (by rw [e];simp only [zu,ev];rfl) (hput false rfl) hd.1 hr
    | false=>exact UT (hput false rfl) hok (by rw [e];simp only [zu,ev];rfl) hs hr
  ·cases hr
theorem zaA {Γ:List (zQ S pr)}: ∀ {os:List AOD} {i:Nat} {seen:SnK} {sn:List (Nat×Fp)} {t:TS S} {g:St} {ρ:Rho} {K:TS S→Option α} {r:α},zci Γ N os i seen t K=some r→zc fr b N ρ t g→SnR ρ g.hp sn seen →
  jU pr b (os.map AOD.er) i sn g (fun s'=> ∃t',K t'=some r∧Rel fr b N t' s')
 | [],i,seen,sn,t,g,ρ,K,r,hr,h,hs=>⟨0,g,rfl,t,hr,Rel.of h⟩
 | o::os,i,seen,sn,t,g,ρ,K,r,hr,h,hs=>by
  obtain ⟨n,g1,t',g2,ρ',seen',k1,k2,k3,k4,k5,k6⟩:=zoc h hs (show dG Γ N o i seen t (fun seen t=>zci Γ N os (i+1) seen t K)=some r from hr)
  refine jU.consK k1 k2 ?_
  obtain ⟨n',s',z1,g',z2,t2,z3,z4⟩:=jU.ghK k4 (zaA (os:=os) k3 k5 k6)
  exact ⟨n',s',z1,t2,z3,z4.gh z2⟩
end
end Go.Pi
