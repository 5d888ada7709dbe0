import Derived.Test.YtmfccopfmddllaaGreatWaK0
import Derived.Test.YtmfccopfmddllaaGreatWaK1
import Derived.Test.YtmfccopfmddllaaGreatWaK2
import Derived.Test.YtmfccopfmddllaaGreatWaK3
import Derived.Test.YtmfccopfmddllaaGreatWaK4
import Derived.Test.YtmfccopfmddllaaGreatLO
import Derived.Test.YtmfccopfmddllaaGreatLP
set_option linter.all false
namespace Go.Pi
set_option linter.unusedVariables false
set_option maxRecDepth 100000
theorem XH {t:List UInt8}{g:GrT}(hP:G24 K0 (t,())=some (g,0,0,()))
  (hD:Y5 g=true) (hR:zaa g=true) (hL:G27 K0 (g,())=some (0,0,())) :
  G20 K0 (t,())=some (g,0,0,()):=by
 show Option.bind (G24 K0 (t,())) _=_
 rw [hP];show Option.bind (G25 K0 (g.1,())) _=_
 unfold Y5 at hD;unfold zaa at hR;match h1:G25 K0 (g.1,()),hD with
 | some (d,e,u),hD=>
  match h2:G26 K0 (g,()),hR with
  | some (tb,e2,u2),hR=>
   simp only [Bool.and_eq_true,beq_iff_eq] at hD hR;obtain ⟨rfl, -⟩:=hD
   subst hR;show Option.bind (G27 K0 (g,())) _=_
   rw [hL];rfl
def txs:List (List UInt8):= [tx0,tx1,tx2,tx3,tx4]
def grs:List GrT:= [gr0,gr1,gr2,gr3,gr4]
theorem zkw:G28 K0 ()=some (txs,()):=by kernel_rfl
theorem zkx (a:Nat)(h:a<256): ∃t∈txs,G21 K0 ((a:Int),())=some (t,()):=by
 have hw:w64 (a:Int)=(a:Int):=zl (by omega) (by omega)
 have hm:Int.tmod (a:Int) 5=((a % 5:Nat):Int):=by
  rw [Int.tmod_eq_emod_of_nonneg (by omega)];omega
 have e:G21 K0 ((a:Int),())=nz (5:Int) ((at? txs (Int.tmod (w64 (a:Int)) 5)).bind fun v1=>
   (List.get?Internal txs (Int.toNat (Int.tmod (w64 (a:Int)) 5))).bind fun v2=>some (v2,())):=by
  have e0:G21 K0 ((a:Int),())=(G28 K0 ()).bind fun x=>nz (x.1.length:Int) ((at? x.1 (Int.tmod (w64 (a:Int)) (x.1.length:Int))).bind fun v1=>
   (List.get?Internal x.1 (Int.toNat (Int.tmod (w64 (a:Int)) (x.1.length:Int)))).bind fun v2=>some (v2,())):=rfl
  rw [e0,zkw];rfl
 rw [e,hw,hm];have h5:a % 5<5:=Nat.mod_lt _ (by omega)
 generalize a % 5=i at h5
 match i,h5 with
 | 0,_=>exact ⟨tx0,by simp [txs],rfl⟩
 | 1,_=>exact ⟨tx1,by simp [txs],rfl⟩
 | 2,_=>exact ⟨tx2,by simp [txs],rfl⟩
 | 3,_=>exact ⟨tx3,by simp [txs],rfl⟩
 | 4,_=>exact ⟨tx4,by simp [txs],rfl⟩
structure zam (g:GrT):Prop where
 dfa:Y5 g=true
 lr:zaa g=true
 chk:zbp g=true
theorem zky (a:Nat)(h:a<256): ∃g,g∈grs∧zam g∧G12 K0 ((a:Int),())=some (g,()):=by
 obtain ⟨t,ht,h1⟩:=zkx a h
 have key: ∃g,g∈grs∧zam g∧G20 K0 (t,())=some (g,0,0,()):=by
  simp only [txs,List.mem_cons,List.not_mem_nil,or_false] at ht;rcases ht with rfl | rfl | rfl | rfl | rfl
  ·exact ⟨gr0,by simp [grs],⟨zk8,zk3,zpx⟩,XH zpn zk8 zk3 zps⟩
  ·exact ⟨gr1,by simp [grs],⟨zk7,zk2,zpw⟩,XH zpm zk7 zk2 zpr⟩
  ·exact ⟨gr2,by simp [grs],⟨zk6,zk1,zpv⟩,XH zpl zk6 zk1 zpq⟩
  ·exact ⟨gr3,by simp [grs],⟨zk5,zk0,zpu⟩,XH zpk zk5 zk0 zpp⟩
  ·exact ⟨gr4,by simp [grs],⟨zk4,zkZ,zpt⟩,XH zpj zk4 zkZ zpo⟩
 obtain ⟨g,hm,hg,h2⟩:=key
 refine ⟨g,hm,hg,?_⟩
 show Option.bind (G21 K0 ((a:Int),())) _=_
 rw [h1];show Option.bind (G20 K0 (t,())) _=_
 rw [h2];rfl
set_option maxRecDepth 20000
structure Xu (nt:Nat) (d:ql):Prop where
 pos:0<d.2.1.length
 acc:d.2.2.1.length=d.2.1.length
 row: ∀r∈d.2.1, ∀x∈r, -1≤x∧x<d.2.1.length
 cls: ∀r∈d.2.1, ∀x∈d.1.1,0≤x∧x<r.length
 out: ∀x∈d.2.2.1, -1≤x∧x<nt
theorem zhC {nt:Nat}{d:ql}(h:ziS nt d=true):Xu nt d:=by
 simp only [ziS,Bool.and_eq_true,decide_eq_true_eq,beq_iff_eq,List.all_eq_true,inR] at h;obtain ⟨h1,h2,h3,h4⟩:=h
 exact ⟨h1,h2,fun r hr=>(h3 r hr).1,fun r hr=>(h3 r hr).2,h4⟩
theorem Xu.get {nt:Nat}{d:ql}(h:Xu nt d){r:List Int}(hr:r∈d.2.1){z:Nat}(hz:z<256) :
  0≤Arr.get d.1 z∧Arr.get d.1 z<r.length:=by
 have hl:d.1.1.length=256:=d.1.2
 have e:Arr.get d.1 z=d.1.1[z]'(by omega):=by
  show d.1.1.getD z 0=_
  rw [List.getD_eq_getElem?_getD,List.getElem?_eq_getElem (by omega)];rfl
 rw [e];exact h.cls r hr _ (List.getElem_mem _)
theorem zhZ {nt:Nat}{d:ql}(h:Xu nt d){bs:List Int}(hb: ∀x∈bs,0≤x∧x<256)
  (hl:bs.length≤100000) {k:Nat} (hk:bs.length<k) (hn:(d.2.1.length:Int)<9223372036854775807) :
  Ok (zi9 k (d,bs,())) fun r=>r=(-1,0,())∨(0≤r.1∧r.1<nt∧1≤r.2.1∧r.2.1≤bs.length):=by
 show Ok (Option.bind (iter k (zfq k) (bs,0, -1,0,0,d,())) _) _
 refine Ok.bind (Q:=fun (r:zI)=>r=(-1,0,())∨(0≤r.1∧r.1<nt∧1≤r.2.1∧r.2.1≤bs.length)) ?_ ?_
 ·refine Ok.iter (fun p=> ∃(s x n:Int) (i:Nat),i≤bs.length∧0≤s∧s<d.2.1.length ∧
    ((x= -1∧n=0)∨(0≤x∧x<nt∧1≤n∧n≤bs.length))∧p=(bs,s,x,n,(i:Int),d,()))
   (fun p=>(bs.length-p.2.2.2.2.1).toNat) ?_ k _ ⟨0, -1,0,0,by omega,by omega,by have:=h.pos;omega,Or.inl ⟨rfl,rfl⟩,rfl⟩
   (by show ((bs.length:Int)-0).toNat<k;omega)
  rintro _ ⟨s,x,n,i,hi,hs,hs2,hx,rfl⟩
  have fin:(x,n,())=((-1,0,()):zI)∨(0≤x∧x<nt∧1≤n∧n≤bs.length):=by
   rcases hx with ⟨rfl,rfl⟩ | hx
   ·exact Or.inl rfl
   ·exact Or.inr hx
  refine Ok.dec (p:=(i:Int)<(bs.length:Int)) (fun hlt=> ?_) (fun _=>Ok.some fin)
  refine Ok.at hs hs2 fun r hr _=>Ok.at (by omega) (by omega) fun c hc _=> ?_
  have hc2:=hb c hc
  refine Ok.inr hc2.1 hc2.2 ?_
  have hg:=h.get hr (z:=c.toNat) (by omega)
  refine Ok.at hg.1 hg.2 fun s2 hs2m _=> ?_
  have hr2:=h.row r hr s2 hs2m
  refine Ok.dec (p:=s2<0) (fun _=>Ok.some fin) (fun hnn=> ?_)
  have ha:=h.acc
  refine Ok.at (by omega) (by omega) fun y hy hyi=> ?_
  have ho:=h.out y hy
  have hw:w64 ((i:Int)+1)=((i+1:Nat):Int):=by rw [zl (by omega) (by omega)];rfl
  refine Ok.bind (Q:=fun p=> ∃x' n':Int,((x'= -1∧n'=0)∨(0≤x'∧x'<nt∧1≤n'∧n'≤bs.length))∧p=(bs,s2,x',n',(i:Int),d,())) ?_ ?_
  ·refine Ok.dec (p:=y≥0) (fun hy0=> ?_) (fun _=>Ok.some ⟨x,n,hx,rfl⟩)
   refine Ok.at (by omega) (by omega) fun y2 hy2 hy2i=> ?_
   have ey:y2=y:=by rw [hyi] at hy2i;exact (Option.some.inj hy2i).symm
   subst ey;refine Ok.some ⟨y2,((i+1:Nat):Int),Or.inr ⟨by omega,by omega,by omega,by omega⟩,?_⟩
   rw [hw]
  ·rintro _ ⟨x',n',hx',rfl⟩
   refine Ok.some ⟨⟨s2,x',n',i+1,by omega,by omega,by omega,hx',?_⟩,?_⟩
   ·show (bs,s2,x',n',w64 ((i:Int)+1),d,())=_
    rw [hw]
   ·show ((bs.length:Int)-w64 ((i:Int)+1)).toNat<((bs.length:Int)-(i:Int)).toNat
    rw [hw];omega
 ·rintro ⟨a,b,u⟩ hr
  exact Ok.some hr
structure WOk (nt:Nat) (n:Int) (ws:List za):Prop where
 at': ∀w∈ws,0≤w.1∧w.1<nt∧0≤w.2.1∧w.2.1<w.2.2.1∧w.2.2.1≤n
 row:ws.Pairwise fun a b=>a.2.2.1≤b.2.1
theorem WOk.mono {nt:Nat}{n m:Int}{ws:List za}(h:WOk nt n ws)(hm:n≤m):WOk nt m ws:=
 ⟨fun w hw=>by have:=h.at' w hw;omega,h.row⟩
theorem WOk.push {nt:Nat}{n m:Int}{ws:List za}(h:WOk nt n ws){x:Int}(h1:0≤x)(h2:x<nt)(h3:n<m)(h0:0≤n) :
  WOk nt m (ws ++ [(x,n,m,())]):=by
 refine ⟨fun w hw=> ?_,?_⟩
 ·rcases List.mem_append.1 hw with hw | hw
  ·have:=h.at' w hw;omega
  ·have e:=List.mem_singleton.1 hw
   subst e;exact ⟨h1,h2,h0,h3,Int.le_refl _⟩
 ·refine List.pairwise_append.2 ⟨h.row,List.pairwise_singleton _ _,fun a ha b hb=> ?_⟩
  have e:=List.mem_singleton.1 hb
  subst e;exact (h.at' a ha).2.2.2.2
theorem WOk.sub {nt:Nat}{n:Int}{ws vs:List za}(h:WOk nt n ws)(hs:vs.Sublist ws):WOk nt n vs:=
 ⟨fun w hw=>h.at' w (hs.subset hw),h.row.sublist hs⟩
abbrev yu:=List (List (List Bool))
structure yl (nr n:Nat) (c:yu):Prop where
 len:c.length=nr
 row: ∀m∈c,m.length=n+1∧ ∀r∈m,r.length=n+1
theorem Ok.mkS {β:Type}{e:Nat}{z:Int}{f:Nat→Option β}{R:β→Prop}(h:0≤z)(h2:z≤100000)(he:e≤1000)(k:Ok (f z.toNat) R) :
  Ok ((Go.Pi.mkS e z).bind f) R:=by
 have hr:(100000000:Int)≤(roomy:Int):=by decide
 have hm:z*(e:Int)≤100000*1000:=Int.mul_le_mul h2 (by omega) (by omega) (by omega)
 have e1:Go.Pi.mkS e z=Option.some z.toNat:=if_pos ⟨h,by omega,by omega⟩
 exact Ok.eq e1 k
theorem JT {α:Type}(f:α→Nat): ∀(l:List α) (i:Nat) (x y:α),l[i]? = some x→((l.set i y).map f).sum+f x=(l.map f).sum+f y
 | a::l,0,x,y,h=>by
  have e:a=x:=Option.some.inj h
  subst e;simp only [List.set_cons_zero,List.map_cons,List.sum_cons];omega
 | a::l,i+1,x,y,h=>by
  have:=JT f l i x y h
  simp only [List.set_cons_succ,List.map_cons,List.sum_cons];omega
def cfb (b:Bool):Nat:=if b then 0 else 1
def cf1 (r:List Bool):Nat:=(r.map cfb).sum
def cf2 (m:List (List Bool)):Nat:=(m.map cf1).sum
def cf3 (c:yu):Nat:=(c.map cf2).sum
theorem yl.set {nr n:Nat}{c:yu}(h:yl nr n c){x i j:Nat}{m:List (List Bool)}{r:List Bool}
  (hm:c[x]? = some m) (hr:m[i]? = some r) (hj:r[j]? = some false) :
  yl nr n (c.set x (m.set i (r.set j true)))∧cf3 (c.set x (m.set i (r.set j true)))<cf3 c:=by
 have h1:=h.row m (List.mem_of_getElem? hm)
 have h2:=h1.2 r (List.mem_of_getElem? hr)
 refine ⟨⟨by rw [List.length_set];exact h.len,fun a ha=> ?_⟩,?_⟩
 ·rcases List.mem_or_eq_of_mem_set ha with ha | rfl
  ·exact h.row a ha
  ·refine ⟨by rw [List.length_set];exact h1.1,fun b hb=> ?_⟩
   rcases List.mem_or_eq_of_mem_set hb with hb | rfl
   ·exact h1.2 b hb
   ·rw [List.length_set];exact h2
 ·have e1:=JT cfb r j false true hj
  have e2:=JT cf1 m i r (r.set j true) hr
  have e3:=JT cf2 c x m (m.set i (r.set j true)) hm
  have f1:cfb false=1:=rfl
  have f2:cfb true=0:=rfl
  have g1:cf1 (r.set j true)+1=cf1 r:=by show _+_=(r.map cfb).sum;unfold cf1;omega
  have g2:cf2 (m.set i (r.set j true))+cf1 r=cf2 m+cf1 (r.set j true):=e2
  have g3:cf3 (c.set x (m.set i (r.set j true)))+cf2 m=cf3 c+cf2 (m.set i (r.set j true)):=e3
  omega
structure Stp (nr n:Nat) (ch:Bool) (c:yu) (ch':Bool) (c':yu):Prop where
 ok:yl nr n c'
 le:cf3 c'≤cf3 c
 lt:ch'=true→ch=true∨cf3 c'<cf3 c
theorem Stp.refl {nr n:Nat}{ch:Bool}{c:yu}(h:yl nr n c):Stp nr n ch c ch c:=⟨h,Nat.le_refl _,Or.inl⟩
theorem Stp.trans {nr n:Nat}{ch ch' ch'':Bool}{c c' c'':yu}(h:Stp nr n ch c ch' c')(h2:Stp nr n ch' c' ch'' c''):Stp nr n ch c ch'' c'':=by
 refine ⟨h2.ok,Nat.le_trans h2.le h.le,fun e=> ?_⟩
 rcases h2.lt e with e1 | e1
 ·rcases h.lt e1 with e2 | e2
  ·exact Or.inl e2
  ·exact Or.inr (Nat.lt_of_le_of_lt h2.le e2)
 ·exact Or.inr (Nat.lt_of_lt_of_le e1 h.le)
structure GOk (B:Nat) (g:GrT):Prop where
 pos:0<g.2.1.length
 nr:g.2.1.length<B
 big:B≤100000
 rules:g.2.2.2.1.length<B
 lhs: ∀r∈g.2.2.2.1,0≤r.1∧r.1<g.2.1.length
 rhs: ∀r∈g.2.2.2.1, ∀x∈r.2.1, -(g.1.length:Int)≤x∧x<g.2.1.length
 len: ∀r∈g.2.2.2.1,r.2.1.length<B
theorem V7 {α:Type}(f:α→Nat)(b:Nat): ∀(l:List α),(∀x∈l,f x≤b)→(l.map f).sum≤l.length*b
 | [],_=>Nat.zero_le _
 | a::l,h=>by
  have h1:=h a List.mem_cons_self
  have h2:=V7 f b l (fun x hx=>h x (List.mem_cons_of_mem _ hx))
  simp only [List.map_cons,List.sum_cons,List.length_cons,Nat.add_mul,Nat.one_mul];omega
theorem yl.cf {nr n:Nat}{c:yu}(h:yl nr n c):cf3 c≤nr*((n+1)*(n+1)):=by
 have:=V7 cf2 ((n+1)*(n+1)) c fun m hm=>by
  have hm2:=h.row m hm
  have:=V7 cf1 (n+1) m fun r hr=>by
   have:=V7 cfb 1 r fun b _=>by cases b<;>decide
   rw [hm2.2 r hr] at this;unfold cf1;omega
  rw [hm2.1] at this;exact this
 rw [h.len] at this;exact this
theorem zku {α:Type}{P:α→Prop}[DecidablePred P]{l:List α}{v:α}(hv:v∈l)(h:l.all (fun x=>decide (P x))=true):P v:=
 of_decide_eq_true (List.all_eq_true.1 h v hv)
theorem zcF {a b:Int}(h:0≤a)(h2:0<b):0≤Int.tmod a b∧Int.tmod a b<b:=
 ⟨Int.tmod_nonneg _ h,Int.tmod_lt_of_pos _ h2⟩
theorem zgZ (s:List UInt8): ∀x∈QM s,0≤x∧x<256:=by
 intro x hx;obtain ⟨b,hb,rfl⟩:=List.mem_map.1 hx
 have:=b.toNat_lt
 exact ⟨by omega,by omega⟩
theorem zfI (s:List UInt8):(QM s).length=s.length:=List.length_map _
theorem zjM {tx:List Int}{gs:List (List UInt8)}(hg:0<gs.length)(hg2: ∀w∈gs,w.length≤20)(htx: ∀x∈tx,0≤x∧x<256)(hl:tx.length<4000)(k:Nat)(hk:tx.length<k) :
  Ok (iter k (zft k) (tx,gs,0,[],())) fun r=>(∀x∈r.1,0≤x∧x<256)∧r.1.length≤20*tx.length:=by
 refine Ok.iter (fun p=> ∃(i:Nat) (bs:List Int),i≤tx.length∧((∀x∈bs,0≤x∧x<256)∧bs.length≤20*i)∧p=(tx,gs,(i:Int),bs,()))
  (fun p=>((tx.length:Int)-p.2.2.1).toNat) ?_ k _ ⟨0,[],by omega,⟨fun x hx=>(nomatch hx),Nat.le_refl _⟩,rfl⟩ (by show ((tx.length:Int)-0).toNat<k;omega)
 rintro _ ⟨i,bs,hi,hbs,rfl⟩
 have hw:w64 ((i:Int)+1)=((i+1:Nat):Int):=by rw [zl (by omega) (by omega)];rfl
 refine Ok.dec (p:=(i:Int)<(tx.length:Int)) (fun hlt=> ?_) (fun hge=>Ok.some ⟨hbs.1,Nat.le_trans hbs.2 (by omega)⟩)
 refine Ok.at (by omega) hlt fun v hv _=> ?_
 have hv2:=htx v hv
 have hwv:w64 v=v:=zl (by omega) (by omega)
 have hm:=zcF (a:=w64 v) (b:=(gs.length:Int)) (by omega) (by omega)
 refine Ok.nz (by omega) (Ok.at hm.1 hm.2 fun w hwm _=> ?_)
 have hl2:=hg2 w hwm
 have hsl:=zfI w
 refine Ok.room (by omega) (by omega) (Ok.some ⟨⟨i+1,bs++QM w,by omega,⟨fun x hx=> ?_,by rw [List.length_append];omega⟩,?_⟩,?_⟩)
 ·rcases List.mem_append.1 hx with hx | hx
  ·exact hbs.1 x hx
  ·exact zgZ w x hx
 ·show (tx,gs,w64 ((i:Int)+1),bs++QM w,())=_
  rw [hw]
 ·show ((tx.length:Int)-w64 ((i:Int)+1)).toNat<((tx.length:Int)-(i:Int)).toNat
  rw [hw];omega
theorem zh5 {a:Int}{tx:List Int}(ha:0≤a)(ha2:a<256)(htx: ∀x∈tx,0≤x∧x<256)(hl:tx.length<4000)(k:Nat)(hk:tx.length<k) :
  Ok (zjf k (a,tx,())) fun r=>(∀x∈r.1,0≤x∧x<256)∧r.1.length≤20*tx.length:=by
 have hwa:w64 a=a:=zl (by omega) (by omega)
 have hm:=zcF (a:=w64 a) (b:=5) (by omega) (by omega)
 refine Ok.nz (by decide) (Ok.at hm.1 hm.2 fun _ _ _=>Ok.get (by show Int.toNat (Int.tmod (w64 a) 5)<5;omega) fun gs hgs _=> ?_)
 have hp:0<gs.length∧ ∀w∈gs,w.length≤20:=zku (P:=fun gs=>0<gs.length∧ ∀w∈gs,w.length≤20) hgs (by decide)
 refine Ok.bind (zjM hp.1 hp.2 htx hl k hk) ?_
 rintro ⟨bs,u⟩ h
 exact Ok.some h
end Go.Pi
namespace Go.Pi
def ZI (h:List Nat)(row:List Int):Int:=(row.map fun x=>if x<0 then 0 else ((h.getD x.toNat 0:Nat):Int)).sum
def YN (row:List Int):Int:=(row.map fun x=>if x<0 then (1:Int) else 0).sum
structure Rk (g:GrT) (c:Int) (h:List Nat):Prop where
 one:1≤c
 rule: ∀r∈g.2.2.2.1,1+ZI h r.2.1+YN r.2.1*(1-c)≤((h.getD r.1.toNat 0:Nat):Int)
def ms (B:Nat)(dep:Int):Nat:=(200-dep).toNat*(B+1)
theorem zhj {B:Nat}{dep:Int}(h:dep<200):ms B (dep+1)+(B+1)=ms B dep:=by
 unfold ms;have e:(200-dep).toNat=(200-(dep+1)).toNat+1:=by omega
 rw [e,Nat.add_mul,Nat.one_mul]
theorem jk (h:List Nat)(x:Int)(r:List Int):ZI h (x::r)=(if x<0 then 0 else ((h.getD x.toNat 0:Nat):Int))+ZI h r:=by
 unfold ZI;rw [List.map_cons,List.sum_cons]
theorem qG (x:Int)(r:List Int):YN (x::r)=(if x<0 then (1:Int) else 0)+YN r:=by
 unfold YN;rw [List.map_cons,List.sum_cons]
theorem Yf (h:List Nat): ∀r:List Int,0≤ZI h r
 | []=>Int.le_refl _
 | x::r=>by
  rw [jk];have:=Yf h r
  split<;>omega
theorem zf5 (c a b:Int):c*(a-(b+1))=c*(a-b)-c:=by
 rw [show a-(b+1)=(a-b)-1 by omega,Int.mul_sub,Int.mul_one]
theorem zdY (c i j m:Int):c*(m-i)+c*(j-m)=c*(j-i):=by
 rw [←Int.mul_add,show m-i+(j-m)=j-i by omega]
def zlc (B:Nat)(g:GrT):Bool:=
 (decide (g.2.1.length≤20)&&(decide (g.2.2.2.1.length<B)&&g.2.2.2.1.all (fun r=>decide (r.2.1.length<B))))&&decide (g.2.2.2.2.2.2.1≤50)
def zgI (cc:Int)(h:List Nat)(g:GrT):Bool:=g.2.2.2.1.all fun r=>decide (1+ZI h r.2.1+YN r.2.1*(1-cc)≤((h.getD r.1.toNat 0:Nat):Int))&&decide (ZI h r.2.1≤1000)
def zkH (g:GrT):Bool:= [[0,1],[1,0],[0,1,0,0,1],[0]].any fun h=>zgI 5 h g
structure Gv (g:GrT):Prop where
 giv:zam g
 gok:GOk 100 g
 rk: ∃h:List Nat,Rk g 5 h∧(∀r∈g.2.2.2.1,ZI h r.2.1≤1000)∧h.getD 0 0≤1
 nr:g.2.1.length≤20
 most0:0≤g.2.2.2.2.2.2.1
 most:g.2.2.2.2.2.2.1≤50
theorem zmh:grs.all (fun g=>zlc 100 g&&zkH g)=true:=by kernel_rfl
theorem Gv.of {g:GrT}(h:zam g)(hm:g∈grs):Gv g:=by
 have h1:=List.all_eq_true.1 zmh g hm
 have h2:=h.chk
 simp only [Bool.and_eq_true,zlc,zbp,zkH,zgI,decide_eq_true_eq,List.all_eq_true,List.any_eq_true,inR] at h1 h2;obtain ⟨⟨⟨a1,a2,a3⟩,a4⟩,hh,hm,a5⟩:=h1
 obtain ⟨b1,b2,b3⟩:=h2
 refine ⟨h,⟨b1,by omega,by omega,a2,fun r hr=>(b3 r hr).1,fun r hr=>(b3 r hr).2,a3⟩,⟨hh,⟨by omega,fun r hr=>(a5 r hr).1⟩,fun r hr=>(a5 r hr).2,?_⟩,a1,b2,a4⟩
 simp only [List.mem_cons,List.not_mem_nil,or_false] at hm;rcases hm with rfl | rfl | rfl | rfl<;>decide
theorem zjI (a b:Int):(if (false=true) then (if a>b then a else b) else (if a<b then a else b))=min a b:=by
 rw [if_neg (by decide)];omega
def mvN (b:Int)(v:zb):zb:=(v.1,v.2.1,v.2.2.1,w64 (v.2.2.2.1+b),w64 (v.2.2.2.2.1+b),())
theorem zdf (ns:List zb)(b:Int)(hl:ns.length<100000)(k:Nat)(hk:ns.length<k):zeE k (ns,b,())=some (ns.map (mvN b),()):=by
 have key:Ok (zeE k (ns,b,())) fun r=>r=(ns.map (mvN b),()):=by
  refine Ok.bind (Q:=fun (r:List zb×Unit)=>r=(ns.map (mvN b),())) ?_ ?_
  ·refine Ok.iter (fun p=> ∃(i:Nat),i≤ns.length∧p=(ns,b,(i:Int),(ns.take i).map (mvN b),()))
    (fun p=>((ns.length:Int)-p.2.2.1).toNat) ?_ k _ ⟨0,by omega,rfl⟩ (by show ((ns.length:Int)-0).toNat<k;omega)
   rintro _ ⟨i,hi,rfl⟩
   have hw:w64 ((i:Int)+1)=((i+1:Nat):Int):=by rw [zl (by omega) (by omega)];rfl
   refine Ok.dec (p:=(i:Int)<(ns.length:Int)) (fun hlt=> ?_) (fun hge=>Ok.some ?_)
   ·refine Ok.at (by omega) hlt fun v _ hv=> ?_
    have hv':ns[i]? = some v:=hv
    have hlen:((ns.take i).map (mvN b)).length=i:=by rw [List.length_map,List.length_take];omega
    refine Ok.room (by rw [hlen];show i+1≤_;omega) (by omega) (Ok.some ⟨⟨i+1,by omega,?_⟩,?_⟩)
    ·show (ns,b,w64 ((i:Int)+1),(ns.take i).map (mvN b) ++ [mvN b v],())=_
     rw [hw,List.take_add_one,hv',List.map_append];rfl
    ·show ((ns.length:Int)-w64 ((i:Int)+1)).toNat<((ns.length:Int)-(i:Int)).toNat
     rw [hw];omega
   ·have e:i=ns.length:=by omega
    subst e;rw [List.take_length]
  ·rintro _ rfl
   exact Ok.some rfl
 obtain ⟨r,h1,h2⟩:=key
 rw [h1,h2]
def Row:Int→Int→List zx→Prop
 | a,b,[]=>a=b
 | a,b,s::l=>s.1=a∧a<s.2.1∧Row s.2.1 b l
theorem Row.append {b c:Int}{m:List zx}(hm:Row b c m): ∀ {a:Int} {l:List zx},Row a b l→Row a c (l++m)
 | _,[],h=>by have h':_=b:=h;subst h';exact hm
 | _,s::l,h=>⟨h.1,h.2.1,Row.append hm h.2.2⟩
theorem Row.len: ∀ {a b:Int} {l:List zx},Row a b l→(l.length:Int)≤b-a
 | a,b,[],h=>by have h':a=b:=h;show (0:Int)≤_;omega
 | a,b,s::l,h=>by
  have:=Row.len h.2.2
  have h2:=h.2.1
  show ((l.length+1:Nat):Int)≤_
  omega
theorem Gv.dfa {g:GrT}(hg:Gv g): ∃d u,G25 K0 (g.1,())=some (d,u)∧Xu g.1.length d∧d.2.1.length<100000:=by
 have h:=hg.giv.dfa
 unfold Y5 at h;match e:G25 K0 (g.1,()),h with
 | some (d,x,u),h=>
  simp only [Bool.and_eq_true,decide_eq_true_eq] at h;exact ⟨d,(x,u),rfl,zhC h.2.1,h.2.2⟩
theorem Ok.atV {α β:Type}{l:List α}{z:Int}{v:α}{f:α→Option β}{R:β→Prop}(h0:0≤z)(h:l[z.toNat]? = Option.some v)(k:Ok (f v) R):Ok ((at? l z).bind f) R:=by
 have e:at? l z=Option.some v:=by unfold at?;rw [if_pos h0];exact h
 exact Ok.eq e k
theorem Ok.getV {α β:Type}{l:List α}{z:Nat}{v:α}{f:α→Option β}{R:β→Prop}(h:l[z]? = Option.some v)(k:Ok (f v) R):Ok ((List.get?Internal l z).bind f) R:=by
 have e:List.get?Internal l z=l[z]? := rfl
 exact Ok.eq (e.trans h) k
theorem Ok.val {α:Type}{m:Option α}{a:α}(h:Ok m fun r=>r=a):m=Option.some a:=by
 obtain ⟨r,h1,h2⟩:=h
 rw [h1,h2]
def gb (l:List Bool)(t:Nat):Bool:=l.getD t false
def bit (c:yu)(x i j:Nat):Bool:=gb ((c.getD x []).getD i []) j
theorem Uj {l:List Bool}{i:Nat}(h:i<l.length)(v:Bool)(t:Nat):gb (l.set i v) t=if t=i then v else gb l t:=by
 unfold gb;rw [List.getD_eq_getElem?_getD,List.getD_eq_getElem?_getD,List.getElem?_set];by_cases e:i=t
 ·subst e;rw [if_pos rfl,if_pos rfl,if_pos h];rfl
 ·rw [if_neg e,if_neg (fun h=>e h.symm)]
theorem QW {l:List Bool}{t:Nat}{b:Bool}(h:l[t]? = some b):gb l t=b:=by
 unfold gb;rw [List.getD_eq_getElem?_getD,h];rfl
theorem zhH {c:yu}{x i j:Nat}{m:List (List Bool)}{r:List Bool}{b:Bool}(hm:c[x]? = some m)(hr:m[i]? = some r)(hj:r[j]? = some b):bit c x i j=b:=by
 have e1:c.getD x []=m:=by rw [List.getD_eq_getElem?_getD,hm];rfl
 have e2:m.getD i []=r:=by rw [List.getD_eq_getElem?_getD,hr];rfl
 unfold bit;rw [e1,e2];exact QW hj
theorem zJ {α:Type}{l:List α}{i:Nat}(h:i<l.length): ∃a,l[i]? = some a:=⟨_,List.getElem?_eq_getElem h⟩
theorem yl.get {nr n:Nat}{c:yu}(h:yl nr n c){x i j:Nat}(hx:x<nr)(hi:i≤n)(hj:j≤n) :
  ∃m r b,c[x]? = some m∧m[i]? = some r∧r[j]? = some b∧bit c x i j=b:=by
 obtain ⟨m,hm⟩:=zJ (l:=c) (i:=x) (by rw [h.len];exact hx)
 have h1:=h.row m (List.mem_of_getElem? hm)
 obtain ⟨r,hr⟩:=zJ (l:=m) (i:=i) (by omega)
 have h2:=h1.2 r (List.mem_of_getElem? hr)
 obtain ⟨b,hb⟩:=zJ (l:=r) (i:=j) (by omega)
 exact ⟨m,r,b,hm,hr,hb,zhH hm hr hb⟩
def One (ws:List za)(c:yu)(x:Int)(i m:Nat):Prop:=
 (x<0∧ ∃w,ws[i]? = some w∧w.1= -1-x∧m=i+1)∨(0≤x∧i≤m∧m≤ws.length∧bit c x.toNat i m=true)
def Spl (ws:List za)(c:yu):List Int→Nat→Nat→Prop
 | [],i,j=>i=j
 | x::r,i,j=> ∃m,One ws c x i m∧Spl ws c r m j
theorem One.le {ws:List za}{c:yu}{x:Int}{i m:Nat}(h:One ws c x i m):i≤m∧m≤ws.length:=by
 rcases h with ⟨_,w,hw,_,rfl⟩ | ⟨_,h1,h2,_⟩
 ·obtain ⟨h,_⟩:=List.getElem?_eq_some_iff.1 hw
  omega
 ·exact ⟨h1,h2⟩
theorem Spl.le {ws:List za}{c:yu}: ∀ {r:List Int} {i j:Nat},Spl ws c r i j→i≤j∧(i≤ws.length→j≤ws.length)
 | [],i,j,h=>by have h':i=j:=h;subst h';exact ⟨Nat.le_refl _,id⟩
 | x::r,i,j,⟨m,h1,h2⟩=>by
  have a:=h1.le
  have b:=Spl.le h2
  exact ⟨by omega,fun _=>b.2 a.2⟩
theorem Spl.snoc {ws:List za}{c:yu}{x:Int}{j:Nat}: ∀ {r:List Int} {i:Nat},Spl ws c (r ++ [x]) i j ↔ ∃m,Spl ws c r i m∧One ws c x m j
 | [],i=>⟨fun ⟨m,h1,h2⟩=>⟨i,rfl,by have h2':m=j:=h2;subst h2';exact h1⟩,fun ⟨m,h1,h2⟩=>⟨j,by have h1':i=m:=h1;subst h1';exact h2,rfl⟩⟩
 | y::r,i=>by
  constructor
  ·rintro ⟨m,h1,h2⟩
   obtain ⟨q,h3,h4⟩:=Spl.snoc.1 h2
   exact ⟨q,⟨m,h1,h3⟩,h4⟩
  ·rintro ⟨q,⟨m,h1,h3⟩,h4⟩
   exact ⟨m,h1,Spl.snoc.2 ⟨q,h3,h4⟩⟩
def ExC (c c':yu):Prop:= ∀x i j,bit c x i j=true→bit c' x i j=true
theorem ExC.refl (c:yu):ExC c c:=fun _ _ _ h=>h
theorem ExC.trans {a b c:yu}(h:ExC a b)(k:ExC b c):ExC a c:=fun x i j e=>k x i j (h x i j e)
theorem One.ext {ws:List za}{c c':yu}(h:ExC c c'){x:Int}{i m:Nat}(k:One ws c x i m):One ws c' x i m:=by
 rcases k with k | ⟨h0,h1,h2,h3⟩
 ·exact Or.inl k
 ·exact Or.inr ⟨h0,h1,h2,h _ _ _ h3⟩
theorem Spl.ext {ws:List za}{c c':yu}(h:ExC c c'): ∀ {r:List Int} {i j:Nat},Spl ws c r i j→Spl ws c' r i j
 | [],_,_,k=>k
 | _::_,_,_,⟨m,h1,h2⟩=>⟨m,h1.ext h,Spl.ext h h2⟩
theorem zjO {nr n:Nat}{row:List Int}{start idx:Int}{i:Nat}{x:Int}{g:GrT}{ws:List za}{c:yu}{cur:List Bool}
  (hc:yl nr n c) (hx:0≤x) (hx2:x<nr) (hi:i≤n) (hn:n<100000) (k:Nat) (hk:n+1<k) (nx:List Bool) (hnx:nx.length=n+1) :
  Ok (iter k (zfh k) (row,start,(n:Int),idx,(i:Int),x,(i:Int),g,ws,c,cur,nx,())) fun r=>
   ∃y:List Bool,y.length=n+1∧(∀t,gb y t=(gb nx t || (decide (i≤t∧t≤n)&&bit c x.toNat i t)))∧r=(row,start,(n:Int),idx,(i:Int),g,ws,c,cur,y,()):=by
 refine Ok.iter (fun p=> ∃(j:Nat) (y:List Bool),i≤j∧j≤n+1∧y.length=n+1∧(∀t,gb y t=(gb nx t || (decide (i≤t∧t<j)&&bit c x.toNat i t)))∧p=(row,start,(n:Int),idx,(i:Int),x,(j:Int),g,ws,c,cur,y,()))
  (fun p=>((n:Int)+1-p.2.2.2.2.2.2.1).toNat) ?_ k _ ⟨i,nx,Nat.le_refl _,by omega,hnx,fun t=>by rw [decide_eq_false (by omega),Bool.false_and,Bool.or_false],rfl⟩ (by show ((n:Int)+1-i).toNat<k;omega)
 rintro _ ⟨j,y,hij,hj,hl,hy,rfl⟩
 refine Ok.dec (p:=(j:Int)≤(n:Int)) (fun hlt=> ?_) (fun hge=>Ok.some ⟨y,hl,fun t=> ?_,rfl⟩)
 ·have hw:w64 ((j:Int)+1)=((j+1:Nat):Int):=by rw [zl (by omega) (by omega)];rfl
  obtain ⟨b,hb⟩:=zJ (l:=y) (i:=j) (by omega)
  have hb':y[(j:Int).toNat]? = some b:=hb
  have hyj:=hy j
  rw [QW hb,decide_eq_false (by omega),Bool.false_and,Bool.or_false] at hyj;obtain ⟨m,r,d,hm,hr,hd,hbit⟩:=hc.get (x:=x.toNat) (i:=i) (j:=j) (by omega) hi (by omega)
  refine Ok.bind (Q:=fun p=>p=(row,start,(n:Int),idx,(i:Int),x,(j:Int),g,ws,c,cur,y.set j (b || d),())) ?_ ?_
  ·refine Ok.atV (by omega) hb' (Ok.getV hb' ?_)
   refine Ok.cond (fun h=>Ok.atV (by omega) hb' (Ok.getV hb' (Ok.some ?_))) (fun h=> ?_)
   ·rw [h,Bool.true_or];rfl
   ·refine Ok.atV hx hm (Ok.getV hm (Ok.getV hm (Ok.atV (by omega) hr (Ok.getV hm (Ok.getV hr (Ok.getV hm (Ok.getV hr (Ok.atV (by omega) hd (Ok.getV hm (Ok.getV hr (Ok.getV hd (Ok.atV (by omega) hb' (Ok.getV hb' (Ok.some ?_))))))))))))))
    rw [h,Bool.false_or];rfl
  ·rintro _ rfl
   refine Ok.some ⟨⟨j+1,y.set j (b || d),by omega,by omega,by rw [List.length_set];exact hl,fun t=> ?_,?_⟩,?_⟩
   ·rw [Uj (by omega)];by_cases e:t=j
    ·subst e;rw [if_pos rfl,hyj,decide_eq_true (by omega),hbit,Bool.true_and]
    ·rw [if_neg e,hy t];have e2:decide (i≤t∧t<j)=decide (i≤t∧t<j+1):=decide_eq_decide.2 (by omega)
     rw [e2]
   ·show (row,start,(n:Int),idx,(i:Int),x,w64 ((j:Int)+1),g,ws,c,cur,_,())=_
    rw [hw]
   ·show ((n:Int)+1-w64 ((j:Int)+1)).toNat<((n:Int)+1-(j:Int)).toNat
    rw [hw];omega
 ·rw [hy t];have e2:decide (i≤t∧t<j)=decide (i≤t∧t≤n):=decide_eq_decide.2 (by omega)
  rw [e2]
theorem zjP {nr n:Nat}{row:List Int}{start idx:Nat}{x:Int}{g:GrT}{ws:List za}{c:yu}{cur:List Bool}
  (hc:yl nr n c) (hx:row[idx]? = some x) (hx1: -100000≤x) (hx2:x<nr) (hs2:start≤n) (hn:n<100000) (hws:ws.length=n) (k:Nat) (hk:n+1<k)
  (hcur:cur.length=n+1) (nx:List Bool) (hnx:nx.length=n+1) :
  Ok (iter k (zfi k) (row,(start:Int),(n:Int),(idx:Int),(start:Int),g,ws,c,cur,nx,())) fun r=>
   ∃y:List Bool,y.length=n+1∧(∀t,gb y t=true↔gb nx t=true ∨ ∃m,start≤m∧m≤n∧gb cur m=true∧One ws c x m t)∧r=(row,(start:Int),(n:Int),(idx:Int),g,ws,c,y,()):=by
 refine Ok.iter (fun p=> ∃(i:Nat) (y:List Bool),start≤i∧i≤n+1∧y.length=n+1∧(∀t,gb y t=true↔gb nx t=true ∨ ∃m,start≤m∧m<i∧gb cur m=true∧One ws c x m t)∧p=(row,(start:Int),(n:Int),(idx:Int),(i:Int),g,ws,c,cur,y,()))
  (fun p=>((n:Int)+1-p.2.2.2.2.1).toNat) ?_ k _ ⟨start,nx,Nat.le_refl _,by omega,hnx,fun t=>⟨Or.inl,fun h=>h.elim id fun ⟨m,h1,h2,_⟩=>by omega⟩,rfl⟩ (by show ((n:Int)+1-start).toNat<k;omega)
 rintro _ ⟨i,y,hsi,hj,hl,hy,rfl⟩
 refine Ok.dec (p:=(i:Int)≤(n:Int)) (fun hlt=> ?_) (fun hge=>Ok.some ⟨y,hl,fun t=> ?_,rfl⟩)
 ·have hw:w64 ((i:Int)+1)=((i+1:Nat):Int):=by rw [zl (by omega) (by omega)];rfl
  obtain ⟨b,hb⟩:=zJ (l:=cur) (i:=i) (by omega)
  have hb':cur[(i:Int).toNat]? = some b:=hb
  have hcb:=QW hb
  refine Ok.bind (Q:=fun p=> ∃y':List Bool,y'.length=n+1∧(∀t,gb y' t=true↔gb y t=true∨(gb cur i=true∧One ws c x i t))∧p=(row,(start:Int),(n:Int),(idx:Int),(i:Int),g,ws,c,cur,y',())) ?_ ?_
  ·refine Ok.atV (by omega) hb' (Ok.getV hb' ?_)
   refine Ok.cond (fun h=>Ok.some ⟨y,hl,fun t=>⟨Or.inl,fun k=>k.elim id fun k=> ?_⟩,rfl⟩) (fun h=> ?_)
   ·rw [hcb] at k;rw [k.1] at h;exact nomatch h
   ·have hbt:b=true:=by revert h;cases b<;>simp
    rw [hcb,hbt];refine Ok.atV (by omega) hx ?_
    refine Ok.dec (p:=x<0) (fun hneg=> ?_) (fun hneg=> ?_)
    ·have hwx:w64 (-1-x)= -1-x:=zl (by omega) (by omega)
     refine Ok.bind (Q:=fun p=> ∃d:Bool,(d=true ↔ ∃w,ws[i]? = some w∧w.1= -1-x)∧p=(row,(start:Int),(n:Int),(idx:Int),(i:Int),d,g,ws,c,cur,y,())) ?_ ?_
     ·refine Ok.dec (p:=(i:Int)<(n:Int)) (fun h=> ?_) (fun h=>Ok.some ⟨false,⟨(fun e=>nomatch e),fun ⟨w,hw,_⟩=> ?_⟩,rfl⟩)
      ·obtain ⟨w,hww⟩:=zJ (l:=ws) (i:=i) (by omega)
       refine Ok.atV (by omega) hww (Ok.some ⟨_,?_,rfl⟩)
       show (w.1==w64 (-1-x))=true↔_
       rw [hwx,beq_iff_eq];exact ⟨fun e=>⟨w,hww,e⟩,fun ⟨w',h1,h2⟩=>by rw [hww] at h1;rw [Option.some.inj h1];exact h2⟩
      ·obtain ⟨h',_⟩:=List.getElem?_eq_some_iff.1 hw
       omega
     ·rintro _ ⟨d,hd,rfl⟩
      have hone: ∀t,One ws c x i t↔d=true∧t=i+1:=fun t=>by
       rw [hd];constructor
       ·rintro (⟨_,w,h1,h2,h3⟩ | ⟨h1,_⟩)
        ·exact ⟨⟨w,h1,h2⟩,h3⟩
        ·omega
       ·rintro ⟨⟨w,h1,h2⟩,h3⟩
        exact Or.inl ⟨hneg,w,h1,h2,h3⟩
      refine Ok.bind (Q:=fun p=> ∃y':List Bool,y'.length=n+1∧(∀t,gb y' t=true↔gb y t=true∨(true=true∧One ws c x i t))∧p=(row,(start:Int),(n:Int),(idx:Int),(i:Int),g,ws,c,cur,y',())) ?_ ?_
      ·refine Ok.cond (fun hdt=> ?_) (fun hdf=>Ok.some ⟨y,hl,fun t=>⟨Or.inl,fun k=>k.elim id fun k=> ?_⟩,rfl⟩)
       ·obtain ⟨w,hww,_⟩:=hd.1 hdt
        obtain ⟨hin,_⟩:=List.getElem?_eq_some_iff.1 hww
        have e1:Int.toNat (w64 ((i:Int)+1))=i+1:=by rw [hw];rfl
        refine Ok.at (by rw [hw];omega) (by rw [hw];omega) fun _ _ _=>Ok.get (by rw [e1];omega) fun _ _ _=>Ok.some ⟨y.set (i+1) true,by rw [List.length_set];exact hl,fun t=> ?_,by rw [e1]⟩
        rw [Uj (by omega),hone,hdt];by_cases e:t=i+1
        ·rw [if_pos e];exact ⟨fun _=>Or.inr ⟨rfl,rfl,e⟩,fun _=>rfl⟩
        ·rw [if_neg e];exact ⟨Or.inl,fun k=>k.elim id fun k=>absurd k.2.2 e⟩
       ·have k2:=(hone t).1 k.2
        rw [k2.1] at hdf;exact nomatch hdf
      ·rintro _ ⟨y',h1,h2,rfl⟩
       exact Ok.some ⟨y',h1,h2,rfl⟩
    ·refine Ok.bind (zjO (row:=row) (start:=start) (idx:=idx) (g:=g) (ws:=ws) (cur:=cur) (i:=i) (x:=x) hc (by omega) hx2 (by omega) hn k hk y hl) ?_
     rintro _ ⟨y',h1,h2,rfl⟩
     refine Ok.some ⟨y',h1,fun t=> ?_,rfl⟩
     rw [h2 t,Bool.or_eq_true,Bool.and_eq_true,decide_eq_true_eq];constructor
     ·rintro (h | ⟨h3,h4⟩)
      ·exact Or.inl h
      ·exact Or.inr ⟨rfl,Or.inr ⟨by omega,h3.1,by omega,h4⟩⟩
     ·rintro (h | ⟨_,h | ⟨_,h3,h4,h5⟩⟩)
      ·exact Or.inl h
      ·omega
      ·exact Or.inr ⟨⟨h3,by omega⟩,h5⟩
  ·rintro _ ⟨y',hl',hy',rfl⟩
   refine Ok.some ⟨⟨i+1,y',by omega,by omega,hl',fun t=> ?_,?_⟩,?_⟩
   ·rw [hy' t,hy t];constructor
    ·rintro ((h | ⟨m,h1,h2,h3⟩) | h)
     ·exact Or.inl h
     ·exact Or.inr ⟨m,h1,by omega,h3⟩
     ·exact Or.inr ⟨i,hsi,by omega,h⟩
    ·rintro (h | ⟨m,h1,h2,h3⟩)
     ·exact Or.inl (Or.inl h)
     ·by_cases e:m=i
      ·subst e;exact Or.inr h3
      ·exact Or.inl (Or.inr ⟨m,h1,by omega,h3⟩)
   ·show (row,(start:Int),(n:Int),(idx:Int),w64 ((i:Int)+1),g,ws,c,cur,y',())=_
    rw [hw]
   ·show ((n:Int)+1-w64 ((i:Int)+1)).toNat<((n:Int)+1-(i:Int)).toNat
    rw [hw];omega
 ·rw [hy t];constructor
  ·rintro (h | ⟨m,h1,h2,h3⟩)
   ·exact Or.inl h
   ·exact Or.inr ⟨m,h1,by omega,h3⟩
  ·rintro (h | ⟨m,h1,h2,h3⟩)
   ·exact Or.inl h
   ·exact Or.inr ⟨m,h1,by omega,h3⟩
theorem zbM (n t:Nat):gb (List.replicate n false) t=false:=by
 unfold gb;rw [List.getD_eq_getElem?_getD,List.getElem?_replicate];split<;>rfl
theorem UY {nr n:Nat}{row:List Int}{start:Nat}{g:GrT}{ws:List za}{c:yu}
  (hc:yl nr n c) (hrow: ∀x∈row, -100000≤x∧x<nr) (hrl:row.length<100000) (hs2:start≤n) (hn:n<99999) (hws:ws.length=n) (k:Nat) (hk:n+1<k) (hk2:row.length<k) :
  Ok (zeD k (row,(start:Int),g,ws,c,())) fun r=> ∃bs:List Bool,bs.length=n+1∧(∀t,gb bs t=true↔Spl ws c row start t)∧r=(g,ws,c,bs,()):=by
 have hw1:w64 ((ws.length:Int)+1)=((n+1:Nat):Int):=by rw [zl (by omega) (by omega),hws];rfl
 have hw2:w64 ((n:Int)+1)=((n+1:Nat):Int):=by rw [zl (by omega) (by omega)];rfl
 show Ok (Option.bind (Go.Pi.mkS 1 (w64 ((ws.length:Int)+1))) _) _
 refine Ok.mkS (by omega) (by omega) (by omega) ?_
 have hr0:(List.replicate (Int.toNat (w64 ((ws.length:Int)+1))) false).length=n+1:=by rw [List.length_replicate,hw1];rfl
 refine Ok.at (by omega) (by omega) fun _ _ _=>Ok.get (by omega) fun _ _ _=> ?_
 refine Ok.bind (Q:=fun r=> ∃bs:List Bool,bs.length=n+1∧(∀t,gb bs t=true↔t≤n∧Spl ws c row start t)∧r=(g,ws,c,bs,())) ?_ ?_
 ·refine Ok.iter (fun p=> ∃(j:Nat) (bs:List Bool),j≤row.length∧bs.length=n+1∧(∀t,gb bs t=true↔t≤n∧Spl ws c (row.take j) start t)∧p=(row,(start:Int),(n:Int),(j:Int),g,ws,c,bs,()))
   (fun p=>((row.length:Int)-p.2.2.2.1).toNat) ?_ k _ ⟨0,List.set (List.replicate (Int.toNat (w64 ((ws.length:Int)+1))) false) (Int.toNat start) true,by omega,by rw [List.length_set];exact hr0,fun t=> ?_,by rw [hws];rfl⟩ (by show ((row.length:Int)-0).toNat<k;omega)
  ·rintro _ ⟨j,bs,hj,hbs,hb,rfl⟩
   refine Ok.dec (p:=(j:Int)<(row.length:Int)) (fun hlt=> ?_) (fun hge=>Ok.some ⟨bs,hbs,?_,rfl⟩)
   ·have hw:w64 ((j:Int)+1)=((j+1:Nat):Int):=by rw [zl (by omega) (by omega)];rfl
    obtain ⟨x,hx⟩:=zJ (l:=row) (i:=j) (by omega)
    have hx1:=hrow x (List.mem_of_getElem? hx)
    refine Ok.mkS (by omega) (by omega) (by omega) ?_
    refine Ok.bind (zjP (row:=row) (start:=start) (idx:=j) (g:=g) (ws:=ws) (cur:=bs) hc hx hx1.1 hx1.2 hs2 (by omega) hws k hk hbs _ (by rw [List.length_replicate,hw2];rfl)) ?_
    rintro _ ⟨nx,hnx,hnb,rfl⟩
    refine Ok.some ⟨⟨j+1,nx,by omega,hnx,fun t=> ?_,?_⟩,?_⟩
    ·rw [hnb t,zbM,List.take_add_one,hx];show _↔t≤n∧Spl ws c (row.take j ++ [x]) start t
     rw [Spl.snoc];constructor
     ·rintro (h | ⟨m,h1,h2,h3,h4⟩)
      ·exact nomatch h
      ·have:=h4.le
       exact ⟨by omega,m,((hb m).1 h3).2,h4⟩
     ·rintro ⟨h0,m,h1,h2⟩
      have:=h2.le
      exact Or.inr ⟨m,h1.le.1,by omega,(hb m).2 ⟨by omega,h1⟩,h2⟩
    ·show (row,(start:Int),(n:Int),w64 ((j:Int)+1),g,ws,c,nx,())=_
     rw [hw]
    ·show ((row.length:Int)-w64 ((j:Int)+1)).toNat<((row.length:Int)-(j:Int)).toNat
     rw [hw];omega
   ·have e:j=row.length:=by omega
    subst e;rw [List.take_length] at hb;exact hb
  ·have e0:Int.toNat (start:Int)=start:=rfl
   rw [e0,Uj (by omega),zbM];show _↔t≤n∧start=t
   by_cases e:t=start
   ·rw [if_pos e];exact ⟨fun _=>⟨by omega,e.symm⟩,fun _=>rfl⟩
   ·rw [if_neg e];exact ⟨(fun h=>nomatch h),fun h=>absurd h.2.symm e⟩
 ·rintro _ ⟨bs,hbs,hb,rfl⟩
  refine Ok.some ⟨bs,hbs,fun t=> ?_,rfl⟩
  rw [hb t];exact ⟨And.right,fun h=>⟨by have:=h.le.2 (by omega);omega,h⟩⟩
def Sd (g:GrT)(ws:List za)(c:yu):Prop:=
 ∀A i j,bit c A i j=true→ ∃(q:Nat) (r:RuT),g.2.2.2.1[q]? = some r∧r.1=(A:Int)∧Spl ws c r.2.1 i j
structure Stq (g:GrT) (ws:List za) (n:Nat) (ch:Bool) (c:yu) (ch':Bool) (c':yu):Prop where
 st:Stp g.2.1.length n ch c ch' c'
 ext:ExC c c'
 sd:Sd g ws c'
theorem Stq.refl {g:GrT}{ws:List za}{n:Nat}{ch:Bool}{c:yu}(h:yl g.2.1.length n c)(s:Sd g ws c):Stq g ws n ch c ch c:=⟨Stp.refl h,ExC.refl c,s⟩
theorem Stq.trans {g:GrT}{ws:List za}{n:Nat}{ch ch' ch'':Bool}{c c' c'':yu}(h:Stq g ws n ch c ch' c')(h2:Stq g ws n ch' c' ch'' c''):Stq g ws n ch c ch'' c'':=
 ⟨h.st.trans h2.st,h.ext.trans h2.ext,h2.sd⟩
theorem zaP {α:Type}{l:List α}{i:Nat}(h:i<l.length)(v d:α)(t:Nat):(l.set i v).getD t d=if t=i then v else l.getD t d:=by
 rw [List.getD_eq_getElem?_getD,List.getD_eq_getElem?_getD,List.getElem?_set];by_cases e:i=t
 ·subst e;rw [if_pos rfl,if_pos rfl,if_pos h];rfl
 ·rw [if_neg e,if_neg (fun h=>e h.symm)]
theorem zhF {c:yu}{x i j:Nat}{m:List (List Bool)}{r:List Bool}{b:Bool}(hm:c[x]? = some m)(hr:m[i]? = some r)(hj:r[j]? = some b)(X I J:Nat) :
  bit (c.set x (m.set i (r.set j true))) X I J=if X=x∧I=i∧J=j then true else bit c X I J:=by
 obtain ⟨h1,h1'⟩:=List.getElem?_eq_some_iff.1 hm
 obtain ⟨h2,h2'⟩:=List.getElem?_eq_some_iff.1 hr
 obtain ⟨h3,h3'⟩:=List.getElem?_eq_some_iff.1 hj
 unfold bit;rw [zaP h1];by_cases e1:X=x
 ·rw [if_pos e1,zaP h2];have em:c.getD X []=m:=by rw [e1,List.getD_eq_getElem?_getD,hm];rfl
  rw [em];by_cases e2:I=i
  ·rw [if_pos e2,Uj h3];have er:m.getD I []=r:=by rw [e2,List.getD_eq_getElem?_getD,hr];rfl
   rw [er];by_cases e3:J=j
   ·rw [if_pos e3,if_pos ⟨e1,e2,e3⟩]
   ·rw [if_neg e3,if_neg fun h=>e3 h.2.2]
  ·rw [if_neg e2,if_neg fun h=>e2 h.2.1]
 ·rw [if_neg e1,if_neg fun h=>e1 h.1]
theorem zjR {n:Nat}{ch:Bool}{ri:Int}{i:Nat}{g:GrT}{ws:List za}{c c0:yu}{q:Nat}{rl:RuT}{bs:List Bool}
  (hc:yl g.2.1.length n c) (hs:Sd g ws c) (hq:g.2.2.2.1[q]? = some rl) (he:ExC c0 c) (hb: ∀t,gb bs t=true→Spl ws c0 rl.2.1 i t)
  (h0:0≤rl.1) (h1:rl.1<g.2.1.length) (hi:i≤n) (hn:n<100000) (hbs:bs.length=n+1) (k:Nat) (hk:n+1<k) :
  Ok (iter k (zfk k) ((n:Int),ch,ri,(i:Int),(i:Int),g,ws,c,rl,bs,())) fun r=>
   ∃ch' c',Stq g ws n ch c ch' c'∧r=((n:Int),ch',ri,(i:Int),g,ws,c',rl,()):=by
 refine Ok.iter (fun p=> ∃(j:Nat) (ch':Bool) (c':yu),j≤n+1∧Stq g ws n ch c ch' c'∧p=((n:Int),ch',ri,(i:Int),(j:Int),g,ws,c',rl,bs,()))
  (fun p=>((n:Int)+1-p.2.2.2.2.1).toNat) ?_ k _ ⟨i,ch,c,by omega,Stq.refl hc hs,rfl⟩ (by show ((n:Int)+1-i).toNat<k;omega)
 rintro _ ⟨j,ch1,c1,hj,hst,rfl⟩
 refine Ok.dec (p:=(j:Int)≤(n:Int)) (fun hlt=> ?_) (fun _=>Ok.some ⟨ch1,c1,hst,rfl⟩)
 have hw:w64 ((j:Int)+1)=((j+1:Nat):Int):=by rw [zl (by omega) (by omega)];rfl
 obtain ⟨b,hbj⟩:=zJ (l:=bs) (i:=j) (by omega)
 have hbj':bs[(j:Int).toNat]? = some b:=hbj
 obtain ⟨m,r,d,hm,hr,hd,hbit⟩:=hst.st.ok.get (x:=rl.1.toNat) (i:=i) (j:=j) (by omega) hi (by omega)
 refine Ok.bind (Q:=fun p=>p=((n:Int),ch1,ri,(i:Int),(j:Int),b && !d,g,ws,c1,rl,bs,())) ?_ ?_
 ·refine Ok.atV (by omega) hbj' (Ok.getV hbj' ?_)
  refine Ok.cond (fun h=> ?_) (fun h=>Ok.some (by rw [h,Bool.false_and]))
  refine Ok.atV h0 hm (Ok.getV hm (Ok.getV hm (Ok.atV (by omega) hr (Ok.getV hm (Ok.getV hr (Ok.getV hm (Ok.getV hr (Ok.atV (by omega) hd (Ok.getV hm (Ok.getV hr (Ok.getV hd (Ok.some ?_))))))))))))
  rw [h,Bool.true_and]
 ·rintro _ rfl
  refine Ok.bind (Q:=fun p=> ∃ch' c',Stq g ws n ch1 c1 ch' c'∧p=((n:Int),ch',ri,(i:Int),(j:Int),g,ws,c',rl,bs,())) ?_ ?_
  ·refine Ok.cond (fun hbt=> ?_) (fun _=>Ok.some ⟨ch1,c1,Stq.refl hst.st.ok hst.sd,rfl⟩)
   have hbd:b=true∧d=false:=by revert hbt;cases b<;>cases d<;>simp
   refine Ok.atV h0 hm (Ok.getV hm (Ok.getV hm (Ok.atV (by omega) hr (Ok.getV hm (Ok.getV hr (Ok.getV hm (Ok.getV hr (Ok.atV (by omega) hd (Ok.getV hm (Ok.getV hr (Ok.getV hd ?_)))))))))))
   have hset:=hst.st.ok.set hm hr (hbd.2▸hd)
   have hbs':=zhF hm hr hd
   have hx:ExC c1 (c1.set rl.1.toNat (m.set i (r.set j true))):=fun X I J e=>by
    rw [hbs'];split
    ·rfl
    ·exact e
   refine Ok.some ⟨true,_,⟨⟨hset.1,Nat.le_of_lt hset.2,fun _=>Or.inr hset.2⟩,hx,fun X I J e=> ?_⟩,rfl⟩
   rw [hbs'] at e;by_cases e3:X=rl.1.toNat∧I=i∧J=j
   ·obtain ⟨rfl,rfl,rfl⟩:=e3
    exact ⟨q,rl,hq,by omega,((hb _ (by rw [QW hbj,hbd.1])).ext (he.trans hst.ext)).ext hx⟩
   ·rw [if_neg e3] at e;obtain ⟨q',r',h2,h3,h4⟩:=hst.sd X I J e
    exact ⟨q',r',h2,h3,h4.ext hx⟩
  ·rintro _ ⟨ch2,c2,hst2,rfl⟩
   refine Ok.some ⟨⟨j+1,ch2,c2,by omega,hst.trans hst2,?_⟩,?_⟩
   ·show ((n:Int),ch2,ri,(i:Int),w64 ((j:Int)+1),g,ws,c2,rl,bs,())=_
    rw [hw]
   ·show ((n:Int)+1-w64 ((j:Int)+1)).toNat<((n:Int)+1-(j:Int)).toNat
    rw [hw];omega
theorem GOk.rhs' {B:Nat}{g:GrT}(hg:GOk B g)(hnt:g.1.length≤100000){r:RuT}(hr:r∈g.2.2.2.1): ∀x∈r.2.1, -100000≤x∧x<g.2.1.length:=
 fun x hx=>by have:=hg.rhs r hr x hx;omega
theorem zjS {B n:Nat}{ch:Bool}{ri:Int}{g:GrT}{ws:List za}{c:yu}{q:Nat}{rl:RuT}(hg:GOk B g)(hnt:g.1.length≤100000)(hq:g.2.2.2.1[q]? = some rl)
  (hc:yl g.2.1.length n c) (hs:Sd g ws c) (hn:n<99999) (hws:ws.length=n) (k:Nat) (hk:n+1<k) (hk2:B≤k) :
  Ok (iter k (zfl k) ((n:Int),ch,ri,0,g,ws,c,rl,())) fun r=>
   ∃ch' c',Stq g ws n ch c ch' c'∧r=((n:Int),ch',ri,g,ws,c',()):=by
 refine Ok.iter (fun p=> ∃(i:Nat) (ch':Bool) (c':yu),i≤n+1∧Stq g ws n ch c ch' c'∧p=((n:Int),ch',ri,(i:Int),g,ws,c',rl,()))
  (fun p=>((n:Int)+1-p.2.2.2.1).toNat) ?_ k _ ⟨0,ch,c,by omega,Stq.refl hc hs,rfl⟩ (by show ((n:Int)+1-0).toNat<k;omega)
 rintro _ ⟨i,ch1,c1,hj,hst,rfl⟩
 refine Ok.dec (p:=(i:Int)≤(n:Int)) (fun hlt=> ?_) (fun _=>Ok.some ⟨ch1,c1,hst,rfl⟩)
 have hw:w64 ((i:Int)+1)=((i+1:Nat):Int):=by rw [zl (by omega) (by omega)];rfl
 have hrl:=List.mem_of_getElem? hq
 have hlen:=hg.len rl hrl
 have hbig:=hg.big
 have hl:=hg.lhs rl hrl
 refine Ok.bind (UY (g:=g) (ws:=ws) (start:=i) hst.st.ok (hg.rhs' hnt hrl) (by omega) (by omega) hn hws k hk (by omega)) ?_
 rintro _ ⟨bs,hbs,hb,rfl⟩
 refine Ok.bind (zjR (ch:=ch1) (ri:=ri) (i:=i) (q:=q) hst.st.ok hst.sd hq (ExC.refl c1) (fun t h=>(hb t).1 h) hl.1 hl.2 (by omega) (by omega) hbs k hk) ?_
 rintro _ ⟨ch2,c2,hst2,rfl⟩
 refine Ok.some ⟨⟨i+1,ch2,c2,by omega,hst.trans hst2,?_⟩,?_⟩
 ·show ((n:Int),ch2,ri,w64 ((i:Int)+1),g,ws,c2,rl,())=_
  rw [hw]
 ·show ((n:Int)+1-w64 ((i:Int)+1)).toNat<((n:Int)+1-(i:Int)).toNat
  rw [hw];omega
theorem zjT {B n:Nat}{ch:Bool}{g:GrT}{ws:List za}{c:yu}(hg:GOk B g)(hnt:g.1.length≤100000)
  (hc:yl g.2.1.length n c) (hs:Sd g ws c) (hn:n<99999) (hws:ws.length=n) (k:Nat) (hk:n+1<k) (hk2:B≤k) :
  Ok (iter k (zfm k) ((n:Int),ch,0,g,ws,c,())) fun r=>
   ∃ch' c',Stq g ws n ch c ch' c'∧r=((n:Int),ch',g,ws,c',()):=by
 have hrs:=hg.rules
 have hbig:=hg.big
 refine Ok.iter (fun p=> ∃(i:Nat) (ch':Bool) (c':yu),i≤g.2.2.2.1.length∧Stq g ws n ch c ch' c'∧p=((n:Int),ch',(i:Int),g,ws,c',()))
  (fun p=>((g.2.2.2.1.length:Int)-p.2.2.1).toNat) ?_ k _ ⟨0,ch,c,by omega,Stq.refl hc hs,rfl⟩ (by show ((g.2.2.2.1.length:Int)-0).toNat<k;omega)
 rintro _ ⟨i,ch1,c1,hj,hst,rfl⟩
 refine Ok.dec (p:=(i:Int)<(g.2.2.2.1.length:Int)) (fun hlt=> ?_) (fun _=>Ok.some ⟨ch1,c1,hst,rfl⟩)
 have hw:w64 ((i:Int)+1)=((i+1:Nat):Int):=by rw [zl (by omega) (by omega)];rfl
 obtain ⟨rl,hq⟩:=zJ (l:=g.2.2.2.1) (i:=i) (by omega)
 refine Ok.atV (by omega) hq ?_
 refine Ok.bind (zjS (ch:=ch1) (ri:=(i:Int)) (ws:=ws) hg hnt hq hst.st.ok hst.sd hn hws k hk hk2) ?_
 rintro _ ⟨ch2,c2,hst2,rfl⟩
 refine Ok.some ⟨⟨i+1,ch2,c2,by omega,hst.trans hst2,?_⟩,?_⟩
 ·show ((n:Int),ch2,w64 ((i:Int)+1),g,ws,c2,())=_
  rw [hw]
 ·show ((g.2.2.2.1.length:Int)-w64 ((i:Int)+1)).toNat<((g.2.2.2.1.length:Int)-(i:Int)).toNat
  rw [hw];omega
theorem zjU {B n:Nat}{g:GrT}{ws:List za}{c:yu}(hg:GOk B g)(hnt:g.1.length≤100000)
  (hc:yl g.2.1.length n c) (hs:Sd g ws c) (hn:n<99999) (hws:ws.length=n) (k:Nat) (hk:n+1<k) (hk2:B≤k) (hk3:cf3 c+1<k) :
  Ok (iter k (zfn k) ((n:Int),true,g,ws,c,())) fun r=>
   ∃c',yl g.2.1.length n c'∧Sd g ws c'∧r=(g,ws,c',()):=by
 refine Ok.iter (fun p=> ∃(ch:Bool) (c':yu),yl g.2.1.length n c'∧Sd g ws c'∧p=((n:Int),ch,g,ws,c',()))
  (fun p=>cf3 p.2.2.2.2.1+(if p.2.1 then 1 else 0)) ?_ k _ ⟨true,c,hc,hs,rfl⟩ (by show cf3 c+1<k;omega)
 rintro _ ⟨ch,c1,hc1,hs1,rfl⟩
 cases ch
 ·exact Ok.some ⟨c1,hc1,hs1,rfl⟩
 ·refine Ok.bind (zjT (ch:=false) (ws:=ws) hg hnt hc1 hs1 hn hws k hk hk2) ?_
  rintro _ ⟨ch2,c2,hst,rfl⟩
  refine Ok.some ⟨⟨ch2,c2,hst.st.ok,hst.sd,rfl⟩,?_⟩
  show cf3 c2+(if ch2=true then 1 else 0)<cf3 c1+1
  have h1:=hst.st.le
  cases ch2
  ·simp only [Bool.false_eq_true,if_false];omega
  ·rcases hst.st.lt rfl with h | h
   ·cases h
   ·simp only [if_true];omega
theorem zjV {n:Nat}{idx:Int}{g:GrT}{ws:List za}{c:yu}(hn:n<99999)(k:Nat)(hk:n+1<k)
  (rs:List (List Bool)) (hrs:rs.length=n+1) :
  Ok (iter k (zfo k) ((n:Int),idx,0,g,ws,c,rs,())) fun r=>
   r=((n:Int),idx,g,ws,c,List.replicate (n+1) (List.replicate (n+1) false),()):=by
 refine Ok.iter (fun p=> ∃(j:Nat) (m:List (List Bool)),j≤n+1∧m.length=n+1∧(∀t,t<j→m[t]? = some (List.replicate (n+1) false))∧p=((n:Int),idx,(j:Int),g,ws,c,m,()))
  (fun p=>((n:Int)+1-p.2.2.1).toNat) ?_ k _ ⟨0,rs,by omega,hrs,fun t ht=>by omega,rfl⟩ (by show ((n:Int)+1-0).toNat<k;omega)
 rintro _ ⟨j,m,hj,hm,hall,rfl⟩
 have hw:w64 ((j:Int)+1)=((j+1:Nat):Int):=by rw [zl (by omega) (by omega)];rfl
 have hw2:w64 ((n:Int)+1)=((n+1:Nat):Int):=by rw [zl (by omega) (by omega)];rfl
 refine Ok.dec (p:=(j:Int)≤(n:Int)) (fun hlt=> ?_) (fun hge=>Ok.some ?_)
 ·refine Ok.mkS (by omega) (by omega) (by omega) ?_
  refine Ok.at (by omega) (by omega) fun _ _ _=>Ok.get (by omega) fun _ _ _=> ?_
  refine Ok.some ⟨⟨j+1,m.set j (List.replicate (Int.toNat (w64 ((n:Int)+1))) false),by omega,by rw [List.length_set];exact hm,fun t ht=> ?_,?_⟩,?_⟩
  ·rw [List.getElem?_set];by_cases e:j=t
   ·rw [if_pos e,if_pos (by omega),hw2];rfl
   ·rw [if_neg e];exact hall t (by omega)
  ·show ((n:Int),idx,w64 ((j:Int)+1),g,ws,c,_,())=_
   rw [hw];rfl
  ·show ((n:Int)+1-w64 ((j:Int)+1)).toNat<((n:Int)+1-(j:Int)).toNat
   rw [hw];omega
 ·have e:m=List.replicate (n+1) (List.replicate (n+1) false):=by
   refine List.ext_getElem? fun t=> ?_
   rw [List.getElem?_replicate];by_cases h:t<n+1
   ·rw [if_pos h];exact hall t (by omega)
   ·rw [if_neg h];exact List.getElem?_eq_none (by omega)
  rw [e]
theorem zjW {B n:Nat}{g:GrT}{ws:List za}(hg:GOk B g)(hn:n<99999)(k:Nat)(hk:n+1<k)(hk2:B≤k) :
  Ok (iter k (zfp k) ((n:Int),0,g,ws,[],())) fun r=>
   r=((n:Int),g,ws,List.replicate g.2.1.length (List.replicate (n+1) (List.replicate (n+1) false)),()):=by
 have hnr:=hg.nr
 have hbig:=hg.big
 refine Ok.iter (fun p=> ∃(i:Nat),i≤g.2.1.length∧p=((n:Int),(i:Int),g,ws,List.replicate i (List.replicate (n+1) (List.replicate (n+1) false)),()))
  (fun p=>((g.2.1.length:Int)-p.2.1).toNat) ?_ k _ ⟨0,by omega,rfl⟩ (by show ((g.2.1.length:Int)-0).toNat<k;omega)
 rintro _ ⟨i,hi,rfl⟩
 have hw:w64 ((i:Int)+1)=((i+1:Nat):Int):=by rw [zl (by omega) (by omega)];rfl
 have hw2:w64 ((n:Int)+1)=((n+1:Nat):Int):=by rw [zl (by omega) (by omega)];rfl
 refine Ok.dec (p:=(i:Int)<(g.2.1.length:Int)) (fun hlt=> ?_) (fun hge=>Ok.some (by rw [(by omega:i=g.2.1.length)]))
 refine Ok.mkS (by omega) (by omega) (by omega) ?_
 refine Ok.bind (zjV (idx:=(i:Int)) (g:=g) (ws:=ws) hn k hk _ (by rw [List.length_replicate,hw2];rfl)) ?_
 rintro _ rfl
 refine Ok.ff rfl ?_
 refine Ok.room (by rw [List.length_replicate];show i+1≤_;omega) (by omega) (Ok.some ⟨⟨i+1,by omega,?_⟩,?_⟩)
 ·show ((n:Int),w64 ((i:Int)+1),g,ws,List.replicate i _ ++ [_],())=_
  rw [hw,←List.replicate_succ']
 ·show ((g.2.1.length:Int)-w64 ((i:Int)+1)).toNat<((g.2.1.length:Int)-(i:Int)).toNat
  rw [hw];omega
theorem zaQ {α:Type}(a x:Nat)(v d:α):(List.replicate a v).getD x d=v∨(List.replicate a v).getD x d=d:=by
 rw [List.getD_eq_getElem?_getD,List.getElem?_replicate];split
 ·exact Or.inl rfl
 ·exact Or.inr rfl
theorem zhG (a b d x i j:Nat):bit (List.replicate a (List.replicate b (List.replicate d false))) x i j=false:=by
 unfold bit;rcases zaQ a x (List.replicate b (List.replicate d false)) [] with e | e
 ·rw [e];rcases zaQ b i (List.replicate d false) [] with e | e
  ·rw [e];exact zbM d j
  ·rw [e];rfl
 ·rw [e];rfl
theorem zhY {B:Nat}{g:GrT}{ws:List za}(hg:GOk B g)(hnt:g.1.length≤100000)(hn:ws.length<99999)(k:Nat)(hk:ws.length+1<k)(hk2:B≤k)
  (hk3:g.2.1.length*((ws.length+1)*(ws.length+1))+1<k) :
  Ok (zi8 k (g,ws,())) fun r=> ∃c,yl g.2.1.length ws.length c∧Sd g ws c∧r=(g,ws,c,()):=by
 refine Ok.bind (zjW (ws:=ws) hg hn k hk hk2) ?_
 rintro _ rfl
 have hc:yl g.2.1.length ws.length (List.replicate g.2.1.length (List.replicate (ws.length+1) (List.replicate (ws.length+1) false))):=
  ⟨List.length_replicate,fun m hm=>by
   rw [List.eq_of_mem_replicate hm];exact ⟨List.length_replicate,fun r hr=>by rw [List.eq_of_mem_replicate hr];exact List.length_replicate⟩⟩
 have hcf:=hc.cf
 refine Ok.bind (zjU (ws:=ws) hg hnt hc (fun A i j h=>by rw [zhG] at h;exact nomatch h) (by omega) rfl k hk hk2 (by omega)) ?_
 rintro _ ⟨c2,hc2,hs2,rfl⟩
 exact Ok.some ⟨c2,hc2,hs2,rfl⟩
inductive zK where
 | nil
 | word (w:za) (rest:zK)
 | name (k:Nat) (kids rest:zK)
def zt (pos:Int):zK→Int
 | .nil=>pos
 | .word w r=>zt w.2.2.1 r
 | .name _ ks r=>zt (zt pos ks) r
def zH (pos:Int):zK→Int
 | .nil=>pos
 | .word w _=>w.2.1
 | .name _ ks _=>zH pos ks
def flat (d pos:Int):zK→List zb
 | .nil=> []
 | .word w r=>(d, -1,w.1,w.2.1,w.2.2.1,())::flat d w.2.2.1 r
 | .name k ks r=>(d,(k:Int), -1,zH pos ks,zt pos ks,())::(flat (d+1) pos ks++flat d (zt pos ks) r)
def Der (g:GrT)(ws:List za):zK→List Int→Nat→Nat→Prop
 | .nil,row,i,j=>row= []∧i=j
 | .word w r,row,i,j=> ∃x row',row=x::row'∧x<0∧ws[i]? = some w∧w.1= -1-x∧Der g ws r row' (i+1) j
 | .name k ks r,row,i,j=> ∃x row' rl m,row=x::row'∧0≤x∧g.2.2.2.1[k]? = some rl∧rl.1=x∧Der g ws ks rl.2.1 i m∧Der g ws r row' m j
theorem Der.le {g:GrT}{ws:List za}: ∀ {F:zK} {row:List Int} {i j:Nat},Der g ws F row i j→i≤j
 | .nil,_,_,_,h=>by have:=h.2;omega
 | .word w r,_,_,_,⟨_,_,_,_,_,_,h⟩=>by have:=Der.le h;omega
 | .name k ks r,_,_,_,⟨_,_,_,_,_,_,_,_,h1,h2⟩=>by have:=Der.le h1;have:=Der.le h2;omega
def toW (ws:List za)(j:Nat):Int:=(ws.getD (j-1) (0,0,0,())).2.2.1
theorem Der.end_eq {g:GrT}{ws:List za}: ∀ {F:zK} {row:List Int} {i j:Nat} (pos:Int),Der g ws F row i j→zt pos F=if i<j then toW ws j else pos
 | .nil,_,i,j,pos,h=>by rw [if_neg (by have:=h.2;omega)];rfl
 | .word w r,_,i,j,pos,⟨_,_,_,_,hw,_,h⟩=>by
  have hl:=Der.le h
  show Go.Pi.zt w.2.2.1 r=_
  rw [Der.end_eq w.2.2.1 h,if_pos (show i<j by omega)];by_cases e:i+1<j
  ·rw [if_pos e]
  ·rw [if_neg e];unfold toW;rw [show j-1=i by omega,List.getD_eq_getElem?_getD,hw];rfl
 | .name k ks r,_,i,j,pos,⟨_,_,_,m,_,_,_,_,h1,h2⟩=>by
  have hl1:=Der.le h1
  have hl2:=Der.le h2
  show Go.Pi.zt (Go.Pi.zt pos ks) r=_
  rw [Der.end_eq _ h2,Der.end_eq pos h1];by_cases e:m<j
  ·rw [if_pos e,if_pos (by omega)]
  ·rw [if_neg e,show j=m by omega]
theorem yX {d:Int}: ∀ {F:zK} {e pos:Int},d≤e→ ∀x∈flat e pos F,d≤x.1
 | .nil,_,_,_,x,hx=>nomatch hx
 | .word w r,e,pos,h,x,hx=>by
  rcases List.mem_cons.1 hx with rfl | hx
  ·exact h
  ·exact yX h x hx
 | .name k ks r,e,pos,h,x,hx=>by
  rcases List.mem_cons.1 hx with rfl | hx
  ·exact h
  ·rcases List.mem_append.1 hx with hx | hx
   ·exact yX (by omega) x hx
   ·exact yX h x hx
def qZ (d:Int)(l:List zb)(b:Int):Int:=l.foldl (fun b x=>if x.1=d then x.2.2.2.2.1 else b) b
theorem JH {d:Int}: ∀ {l:List zb} (b:Int),(∀x∈l,d<x.1)→qZ d l b=b
 | [],_,_=>rfl
 | x::l,b,h=>by
  show qZ d l (if x.1=d then x.2.2.2.2.1 else b)=b
  rw [if_neg (by have:=h x List.mem_cons_self;omega)]
  exact JH b fun y hy=>h y (List.mem_cons_of_mem _ hy)
theorem YM (d:Int)(l m:List zb)(b:Int):qZ d (l++m) b=qZ d m (qZ d l b):=List.foldl_append
theorem UP (d:Int): ∀(F:zK) (pos:Int),qZ d (flat d pos F) pos=zt pos F
 | .nil,pos=>rfl
 | .word w r,pos=>by
  show qZ d (flat d w.2.2.1 r) (if d=d then w.2.2.1 else pos)=zt w.2.2.1 r
  rw [if_pos rfl,UP d r]
 | .name k ks r,pos=>by
  show qZ d (flat (d+1) pos ks++flat d (zt pos ks) r) (if d=d then zt pos ks else pos)=zt (zt pos ks) r
  have hdeep: ∀x∈flat (d+1) pos ks,d<x.1:=fun x hx=>by
   have:=yX (Int.le_refl (d+1)) x hx
   omega
  rw [if_pos rfl,YM,JH _ hdeep,UP d r]
def ZV (pos:Int):List zb→Int
 | []=>pos
 | x::_=>x.2.2.2.1
theorem zhs (d:Int): ∀(F:zK) (pos:Int),ZV pos (flat d pos F)=zH pos F
 | .nil,_=>rfl
 | .word _ _,_=>rfl
 | .name _ _ _,_=>rfl
theorem Der.len {g:GrT}{ws:List za}{cc:Int}{h:List Nat}(hr:Rk g cc h): ∀ {F:zK} {row:List Int} {i j:Nat} (d pos:Int),Der g ws F row i j →
  ((flat d pos F).length:Int)≤cc*((j:Int)-i)+ZI h row+YN row*(1-cc)
 | .nil,_,i,j,d,pos,⟨e,e2⟩=>by
  subst e;subst e2;show (0:Int)≤cc*((i:Int)-i)+0+0*(1-cc)
  rw [Int.sub_self,Int.mul_zero,Int.zero_mul];omega
 | .word w r,_,i,j,d,pos,⟨x,row',e,hx,_,_,k⟩=>by
  subst e;have:=Der.len hr d w.2.2.1 k
  have hs:=zf5 cc j i
  rw [jk,qG,if_pos hx,if_pos hx];have e1:(1+YN row')*(1-cc)=(1-cc)+YN row'*(1-cc):=by rw [Int.add_mul,Int.one_mul]
  rw [e1];show (((flat d w.2.2.1 r).length+1:Nat):Int)≤_
  have e2:((i+1:Nat):Int)=(i:Int)+1:=by omega
  rw [e2] at this;omega
 | .name q ks r,_,i,j,d,pos,⟨x,row',rl,m,e,hx,hq,hl,k1,k2⟩=>by
  subst e;have a1:=Der.len hr (d+1) pos k1
  have a2:=Der.len hr d (zt pos ks) k2
  have hrk:=hr.rule rl (List.mem_of_getElem? hq)
  have hs:=zdY cc i j m
  rw [jk,qG,if_neg (by omega),if_neg (by omega),Int.zero_add];rw [hl] at hrk;show (((flat (d+1) pos ks++flat d (zt pos ks) r).length+1:Nat):Int)≤_
  rw [List.length_append];omega
theorem zjQ {dep:Int}{g:GrT}{ws:List za}{c:yu}{ns:List zb}{x y z:Int}(hl:ns.length<100000)(hd:0≤dep)(hd2:dep≤1000)(k:Nat)(hk:ns.length<k)(a b:Int) :
  Ok (iter k (zfj k) (dep,0,g,ws,c,ns,x,y,z,a,b,())) fun r=>r=(g,ws,c,ns,x,y,z,ZV a ns,qZ (dep+1) ns b,()):=by
 have hwd:w64 (dep+1)=dep+1:=zl (by omega) (by omega)
 refine Ok.iter (fun p=> ∃(j:Nat),j≤ns.length∧p=(dep,(j:Int),g,ws,c,ns,x,y,z,(if j=0 then a else ZV a ns),qZ (dep+1) (ns.take j) b,()))
  (fun p=>((ns.length:Int)-p.2.1).toNat) ?_ k _ ⟨0,by omega,rfl⟩ (by show ((ns.length:Int)-0).toNat<k;omega)
 rintro _ ⟨j,hj,rfl⟩
 have hw:w64 ((j:Int)+1)=((j+1:Nat):Int):=by rw [zl (by omega) (by omega)];rfl
 refine Ok.dec (p:=(j:Int)<(ns.length:Int)) (fun hlt=> ?_) (fun hge=>Ok.some ?_)
 ·obtain ⟨v,hv⟩:=zJ (l:=ns) (i:=j) (by omega)
  have hv':ns[(j:Int).toNat]? = some v:=hv
  refine Ok.bind (Q:=fun p=>p=(dep,(j:Int),g,ws,c,ns,x,y,z,ZV a ns,qZ (dep+1) (ns.take j) b,())) ?_ ?_
  ·refine Ok.cond (fun e=> ?_) (fun e=>Ok.some ?_)
   ·have e0:j=0:=by have:=beq_iff_eq.1 e;omega
    subst e0;refine Ok.atV (by omega) hv' (Ok.getV hv' (Ok.some ?_))
    cases ns with
    | nil=>exact nomatch hv
    | cons n0 ns=>rw [←Option.some.inj hv];rfl
   ·have e0: ¬j=0:=by have:=beq_eq_false_iff_ne.1 e;omega
    rw [if_neg e0]
  ·rintro _ rfl
   refine Ok.atV (by omega) hv' (Ok.getV hv' ?_)
   refine Ok.bind (Q:=fun p=>p=(dep,(j:Int),g,ws,c,ns,x,y,z,ZV a ns,qZ (dep+1) (ns.take (j+1)) b,())) ?_ ?_
   ·rw [hwd,List.take_add_one,hv,YM];refine Ok.cond (fun e=>Ok.atV (by omega) hv' (Ok.getV hv' (Ok.some ?_))) (fun e=>Ok.some ?_)
    ·have e2:v.1=dep+1:=beq_iff_eq.1 e
     show _=(dep,(j:Int),g,ws,c,ns,x,y,z,ZV a ns,(if v.1=dep+1 then v.2.2.2.2.1 else _),())
     rw [if_pos e2]
    ·have e2: ¬v.1=dep+1:=beq_eq_false_iff_ne.1 e
     show _=(dep,(j:Int),g,ws,c,ns,x,y,z,ZV a ns,(if v.1=dep+1 then v.2.2.2.2.1 else _),())
     rw [if_neg e2]
   ·rintro _ rfl
    refine Ok.some ⟨⟨j+1,by omega,?_⟩,?_⟩
    ·show (dep,w64 ((j:Int)+1),g,ws,c,ns,x,y,z,ZV a ns,_,())=_
     rw [hw,if_neg (by omega)]
    ·show ((ns.length:Int)-w64 ((j:Int)+1)).toNat<((ns.length:Int)-(j:Int)).toNat
     rw [hw];omega
 ·have e:j=ns.length:=by omega
  subst e;rw [List.take_length]
  cases ns with
  | nil=>rfl
  | cons n0 ns=>rfl
theorem Spl.tc {ws:List za}{c:yu}: ∀ {r:List Int} {i j:Nat},Spl ws c r i j→YN r≤(j:Int)-i
 | [],i,j,h=>by have h':i=j:=h;subst h';show (0:Int)≤_;omega
 | x::r,i,j,⟨m,h1,h2⟩=>by
  have:=Spl.tc h2
  have hle:=h1.le
  rw [qG];rcases h1 with ⟨hx,w,_,_,rfl⟩ | ⟨hx,_⟩
  ·rw [if_pos hx];omega
  ·rw [if_neg (by omega)];omega
def RC (h:List Nat)(row:List Int)(i j:Nat)(M:Int):Prop:= ∀x∈row,0≤x→((j:Int)-i-YN row)*2+((h.getD x.toNat 0:Nat):Int)≤M
def Rk2 (g:GrT)(h:List Nat):Prop:= ∀r∈g.2.2.2.1, ∀x∈r.2.1,0≤x→((h.getD x.toNat 0:Nat):Int)+1≤((h.getD r.1.toNat 0:Nat):Int)+YN r.2.1*2
def ES (B:Nat)(g:GrT)(ws:List za)(c:yu)(h:List Nat)(e:JR)(dd:Nat):Prop:=
 ∀(row:List Int) (i j:Nat) (dep pos M:Int),(∀x∈row, -100000≤x∧x<g.2.1.length)→row.length<B→i≤j→j≤ws.length→0≤dep→dep≤200→dep+M<200→RC h row i j M →
  ZI h row≤1000→ms B dep+row.length<dd →
  Ok (e (row,(i:Int),(j:Int),dep,pos,g,ws,c,())) fun r=>(¬Spl ws c row i j∧r=(false,g,ws,c,[],()))∨(∃F,Spl ws c row i j∧Der g ws F row i j∧r=(true,g,ws,c,flat dep pos F,()))
theorem Jv: ∀r:List Int,0≤YN r
 | []=>Int.le_refl _
 | x::r=>by
  rw [qG];have:=Jv r
  split<;>omega
theorem Der.small {g:GrT}{ws:List za}{h:List Nat}(hr:Rk g 5 h){F:zK}{row:List Int}{i j:Nat}(d pos:Int)(k:Der g ws F row i j)(hb:ZI h row≤1000)(hj:j≤50):(flat d pos F).length≤1250:=by
 have:=k.len hr d pos
 have h1:=Jv row
 have h2:YN row*(1-5)≤0:=by omega
 omega
theorem za8 {B:Nat}{g:GrT}{ws:List za}{c:yu}{h:List Nat}{e:JR}{dd:Nat}(he:ES B g ws c h e dd)(hg:GOk B g)(hnt:g.1.length≤100000)(hr:Rk g 5 h)(hr2:Rk2 g h)(hs:Sd g ws c)
  (hh: ∀r∈g.2.2.2.1,ZI h r.2.1≤1000) (hw:ws.length≤50)
  {A:Int} {i j:Nat} {dep pos:Int} (hA:0≤A) (hij:i≤j) (hj:j≤ws.length) (hd:0≤dep) (hmu:dep+(((j:Int)-i)*2+((h.getD A.toNat 0:Nat):Int))<200) (hbit:bit c A.toNat i j=true)
  (hm:ms B dep≤dd) (k:Nat) (hk:B≤k) (hk2:90001<k) :
  Ok (zcA k e (A,(i:Int),(j:Int),dep,pos,g,ws,c,())) fun r=> ∃q ks,Der g ws (.name q ks .nil) [A] i j∧r=(g,ws,c,flat dep pos (.name q ks .nil),()):=by
 have hbig:=hg.big
 have hrs:=hg.rules
 have h1:dep<200:=by omega
 obtain ⟨q,rl,hq,hl,hspl⟩:=hs _ _ _ hbit
 refine Ok.bind (Q:=fun r=> ∃q ks,Der g ws (.name q ks .nil) [A] i j∧r=Sum.inr (g,ws,c,flat dep pos (.name q ks .nil),())) ?_ ?_
 ·refine Ok.iter (fun p=> ∃(ri:Nat),ri≤q∧p=(A,(i:Int),(j:Int),dep,pos,(ri:Int),g,ws,c,()))
   (fun p=>((g.2.2.2.1.length:Int)-p.2.2.2.2.2.1).toNat) ?_ k _ ⟨0,by omega,rfl⟩ (by show ((g.2.2.2.1.length:Int)-0).toNat<k;omega)
  rintro _ ⟨ri,hri,rfl⟩
  obtain ⟨hql,_⟩:=List.getElem?_eq_some_iff.1 hq
  have hw1:w64 ((ri:Int)+1)=((ri+1:Nat):Int):=by rw [zl (by omega) (by omega)];rfl
  have hwd:w64 (dep+1)=dep+1:=zl (by omega) (by omega)
  refine Ok.bind (Q:=fun p=>p=(A,(i:Int),(j:Int),dep,pos,(ri:Int),true,g,ws,c,())) ?_ ?_
  ·refine Ok.dec (p:=(ri:Int)<(g.2.2.2.1.length:Int)) (fun _=>Ok.some ?_) (fun h=>by omega)
   rw [decide_eq_true h1]
  ·rintro _ rfl
   refine Ok.tt rfl ?_
   obtain ⟨v,hv⟩:=zJ (l:=g.2.2.2.1) (i:=ri) (by omega)
   have hv':g.2.2.2.1[(ri:Int).toNat]? = some v:=hv
   have hvm:=List.mem_of_getElem? hv
   refine Ok.bind (Q:=fun r=>(ri<q∧r=Sum.inl (A,(i:Int),(j:Int),dep,pos,(ri:Int),g,ws,c,())) ∨ ∃q ks,Der g ws (.name q ks .nil) [A] i j∧r=Sum.inr (g,ws,c,flat dep pos (.name q ks .nil),())) ?_ ?_
   ·refine Ok.atV (by omega) hv' ?_
    have hnq: ¬(v.1=A∧Spl ws c v.2.1 i j)→ri<q:=fun hn=>by
     by_cases e:ri=q
     ·subst e;rw [hv] at hq;have e2:=Option.some.inj hq
      subst e2;exact absurd ⟨by omega,hspl⟩ hn
     ·omega
    by_cases hvA:v.1=A
    ·refine Ok.ff (by simp [hvA]) (Ok.atV (by omega) hv' ?_)
     have hlen:=hg.len v hvm
     have hms:=zhj (B:=B) h1
     refine Ok.bind (he v.2.1 i j (w64 (dep+1)) pos (((j:Int)-i)*2+((h.getD A.toNat 0:Nat):Int)-1) (hg.rhs' hnt hvm) hlen hij hj (by omega) (by omega) (by omega) ?_ (hh v hvm) (by rw [hwd];omega)) ?_
     ·intro x hx hx0;have:=hr2 v hvm x hx hx0
      rw [hvA] at this;omega
     ·rintro _ (⟨hn,rfl⟩ | ⟨F,hsp,hF,rfl⟩)
      ·exact Ok.tt rfl (Ok.some (Or.inl ⟨hnq fun h=>hn h.2,rfl⟩))
      ·refine Ok.ff rfl ?_
       have hsm:=hF.small hr (w64 (dep+1)) pos (hh v hvm) (by omega)
       refine Ok.bind (zjQ (dep:=dep) (g:=g) (ws:=ws) (c:=c) (ns:=flat (w64 (dep+1)) pos F) (x:=dep) (y:=(ri:Int)) (z:= -1) (by omega) hd (by omega) k (by omega) pos pos) ?_
       rintro _ rfl
       refine Ok.room (by show 1+(flat (w64 (dep+1)) pos F).length≤_;omega) (by omega) (Ok.some (Or.inr ⟨ri,F,⟨A,[],v,j,rfl,hA,hv,hvA,hF,rfl,rfl⟩,?_⟩))
       rw [hwd,zhs,UP];show _=Sum.inr (g,ws,c,(dep,(ri:Int), -1,zH pos F,zt pos F,())::(flat (dep+1) pos F ++ []),())
       rw [List.append_nil];rfl
    ·exact Ok.tt (by simpa using hvA) (Ok.some (Or.inl ⟨hnq fun h=>hvA h.1,rfl⟩))
   ·rintro _ (⟨hlt,rfl⟩ | ⟨q',ks,h2,rfl⟩)
    ·refine Ok.some ⟨⟨ri+1,by omega,?_⟩,?_⟩
     ·show (A,(i:Int),(j:Int),dep,pos,w64 ((ri:Int)+1),g,ws,c,())=_
      rw [hw1]
     ·show ((g.2.2.2.1.length:Int)-w64 ((ri:Int)+1)).toNat<((g.2.2.2.1.length:Int)-(ri:Int)).toNat
      rw [hw1];omega
    ·exact Ok.some ⟨q',ks,h2,rfl⟩
 ·rintro _ ⟨q',ks,h2,rfl⟩
  exact Ok.some ⟨q',ks,h2,rfl⟩
theorem zhm {B:Nat}{g:GrT}{ws:List za}{c:yu}{h:List Nat}{e:JR}{dd:Nat}(he:ES B g ws c h e dd)(hg:GOk B g)(hnt:g.1.length≤100000)(hr:Rk g 5 h)(hr2:Rk2 g h)(hs:Sd g ws c)
  (hh: ∀r∈g.2.2.2.1,ZI h r.2.1≤1000) (hw:ws.length≤50)
  (hc:yl g.2.1.length ws.length c) {x:Int} {rest:List Int} (hx:0≤x) (hrow: ∀y∈x::rest, -100000≤y∧y<g.2.1.length) (hl:(x::rest).length<B)
  {i j:Nat} {dep pos M:Int} (hij:i≤j) (hj:j≤ws.length) (hd:0≤dep) (hd2:dep≤200) (hM:dep+M<200) (hRC:RC h (x::rest) i j M)
  (hH:ZI h (x::rest)≤1000) (hm:ms B dep+rest.length<dd) (k:Nat) (hk:B≤k) (hk2:100001<k) :
  Ok (iter k (zfg k e) (x::rest,(i:Int),(j:Int),dep,pos,x,(i:Int),g,ws,c,())) fun r=>(¬Spl ws c (x::rest) i j∧r=Sum.inl (g,ws,c,())) ∨
   ∃F,Spl ws c (x::rest) i j∧Der g ws F (x::rest) i j∧r=Sum.inr (true,g,ws,c,flat dep pos F,()):=by
 have hbig:=hg.big
 have hx2:=(hrow x List.mem_cons_self).2
 have hrh:=jk h x rest
 have hrt:=qG x rest
 rw [if_neg (by omega)] at hrh hrt;have hrn:=Yf h rest
 have hlc:(x::rest).length=rest.length+1:=rfl
 have hrest: ∀y∈rest, -100000≤y∧y<g.2.1.length:=fun y hy=>hrow y (List.mem_cons_of_mem _ hy)
 refine Ok.iter (fun p=> ∃m:Nat,i≤m∧m≤j+1∧(∀t,i≤t→t<m→ ¬(One ws c x i t∧Spl ws c rest t j))∧p=(x::rest,(i:Int),(j:Int),dep,pos,x,(m:Int),g,ws,c,())) (fun p=>((j:Int)+1-p.2.2.2.2.2.2.1).toNat) ?_ k _ ⟨i,Nat.le_refl _,by omega,fun t h1 h2=>by omega,rfl⟩ (by show ((j:Int)+1-i).toNat<k;omega)
 rintro _ ⟨m,hm1,hm2,hno,rfl⟩
 have hwm:w64 ((m:Int)+1)=((m+1:Nat):Int):=by rw [zl (by omega) (by omega)];rfl
 refine Ok.dec (p:=(m:Int)≤(j:Int)) (fun hmj=> ?_) (fun hmj=>Ok.some (Or.inl ⟨?_,rfl⟩))
 ·obtain ⟨a1,a2,b,ha1,ha2,hb,hbit⟩:=hc.get (x:=x.toNat) (i:=i) (j:=m) (by omega) (by omega) (by omega)
  have hone:One ws c x i m↔b=true:=by
   rw [←hbit];constructor
   ·rintro (⟨h0,_⟩ | ⟨_,_,_,h3⟩)
    ·omega
    ·exact h3
   ·exact fun h3=>Or.inr ⟨hx,hm1,by omega,h3⟩
  refine Ok.bind (Q:=fun p=> ∃d:Bool,(d=false↔One ws c x i m∧Spl ws c rest m j)∧p=(x::rest,(i:Int),(j:Int),dep,pos,x,(m:Int),d,g,ws,c,())) ?_ ?_
  ·refine Ok.atV hx ha1 (Ok.getV ha1 (Ok.getV ha1 (Ok.atV (by omega) ha2 (Ok.getV ha1 (Ok.getV ha2 (Ok.getV ha1 (Ok.getV ha2 (Ok.atV (by omega) hb (Ok.getV ha1 (Ok.getV ha2 (Ok.getV hb ?_)))))))))))
   refine Ok.cond (fun hnb=>Ok.some ⟨true,⟨(fun e=>nomatch e),fun hh=> ?_⟩,rfl⟩) (fun hnb=>Ok.hi (by omega) (by show (1:Int)≤((x::rest).length:Nat);omega) ?_)
   ·rw [hone.1 hh.1] at hnb;exact nomatch hnb
   ·have hbt:b=true:=by revert hnb;cases b<;>simp
    refine Ok.bind (UY (row:=rest) (g:=g) (ws:=ws) (start:=m) hc hrest (by omega) (by omega) (by omega) rfl k (by omega) (by omega)) ?_
    rintro _ ⟨bs,hbs,hbb,rfl⟩
    obtain ⟨v,hv⟩:=zJ (l:=bs) (i:=j) (by omega)
    refine Ok.atV (by omega) hv (Ok.getV hv (Ok.some ⟨_,?_,rfl⟩))
    rw [hone,←hbb j,QW hv]
    cases v<;>simp [hbt]
  ·rintro _ ⟨d,hd3,rfl⟩
   refine Ok.cond (fun hdt=>Ok.some ⟨⟨m+1,by omega,by omega,fun t h1 h2=> ?_,?_⟩,?_⟩) (fun hdf=> ?_)
   ·by_cases e:t=m
    ·subst e;exact fun hh=>by rw [hd3.2 hh] at hdt;exact nomatch hdt
    ·exact hno t h1 (by omega)
   ·show (x::rest,(i:Int),(j:Int),dep,pos,x,w64 ((m:Int)+1),g,ws,c,())=_
    rw [hwm]
   ·show ((j:Int)+1-w64 ((m:Int)+1)).toNat<((j:Int)+1-(m:Int)).toNat
    rw [hwm];omega
   ·obtain ⟨h1,h2⟩:=hd3.1 hdf
    have htc:=h2.tc
    have hbt:=hone.1 h1
    refine Ok.bind (Q:=fun p=>p=(x::rest,(i:Int),(j:Int),dep,pos,x,(m:Int),(if i<m then toW ws m else pos),g,ws,c,())) ?_ ?_
    ·refine Ok.dec (p:=(m:Int)>(i:Int)) (fun hgt=> ?_) (fun hgt=>Ok.some ?_)
     ·have hwm1:w64 ((m:Int)-1)=((m-1:Nat):Int):=by rw [zl (by omega) (by omega)];omega
      obtain ⟨w,hww⟩:=zJ (l:=ws) (i:=m-1) (by omega)
      rw [hwm1];refine Ok.atV (by omega) hww (Ok.some ?_)
      rw [if_pos (by omega)];unfold toW;rw [List.getD_eq_getElem?_getD,hww];rfl
     ·rw [if_neg (by omega)]
    ·rintro _ rfl
     refine Ok.hi (by omega) (by show (1:Int)≤((x::rest).length:Nat);omega) ?_
     refine Ok.bind (he rest m j dep (if i<m then toW ws m else pos) M hrest (by omega) (by omega) hj hd hd2 hM ?_ (by omega) hm) ?_
     ·intro y hy hy0;have:=hRC y (List.mem_cons_of_mem _ hy) hy0
      rw [hrt] at this;omega
     ·rintro _ (⟨hn,rfl⟩ | ⟨F,hsp,hF,rfl⟩)
      ·exact absurd h2 hn
      ·have hmu:=hRC x List.mem_cons_self hx
       rw [hrt] at hmu;refine Ok.bind (za8 (A:=x) (i:=i) (j:=m) (dep:=dep) (pos:=pos) he hg hnt hr hr2 hs hh hw hx hm1 (by omega) hd (by omega) (by rw [hbit];exact hbt) (by omega) k hk (by omega)) ?_
       rintro _ ⟨q,ks,hD,rfl⟩
       obtain ⟨x',row',rl,m',e1,hx',hq,hrl,hks,_,hmm⟩:=hD
       subst hmm;have ex:x'=x:=(List.cons.inj e1).1.symm
       subst ex;have hDer:Der g ws (.name q ks F) (x'::rest) i j:=⟨x',rest,rl,m',rfl,hx',hq,hrl,hks,hF⟩
       have hen:zt pos ks=if i<m' then toW ws m' else pos:=hks.end_eq pos
       have hfl:flat dep pos (.name q ks .nil)++flat dep (if i<m' then toW ws m' else pos) F=flat dep pos (.name q ks F):=by
        rw [←hen];show ((dep,(q:Int), -1,zH pos ks,zt pos ks,())::(flat (dep+1) pos ks ++ []))++_=_
        rw [List.append_nil];rfl
       have hsm:=hDer.small hr dep pos hH (by omega)
       rw [←hfl,List.length_append] at hsm;refine Ok.room (by omega) (by omega) (Ok.some (Or.inr ⟨.name q ks F,⟨m',h1,h2⟩,hDer,?_⟩))
       rw [hfl]
 ·rintro ⟨m',h1,h2⟩
  have:=h1.le
  have:=h2.le
  exact hno m' h1.le.1 (by omega) ⟨h1,h2⟩
theorem zgv {B:Nat}{g:GrT}{ws:List za}{c:yu}{h:List Nat}{e:JR}{dd:Nat}(he:ES B g ws c h e dd)(hg:GOk B g)(hnt:g.1.length≤100000)(hr:Rk g 5 h)(hr2:Rk2 g h)(hs:Sd g ws c)
  (hh: ∀r∈g.2.2.2.1,ZI h r.2.1≤1000) (hw:ws.length≤50) (hc:yl g.2.1.length ws.length c) (k:Nat) (hk:B≤k) (hk2:100001<k):ES B g ws c h (zcz k e) (dd+1):=by
 intro row i j dep pos M hrow hl hij hj hd hd2 hM hRC hH hm;match row,hrow,hl,hRC,hH,hm with
 | [],_,_,_,_,_=>
  have e0:zcz k e ([],(i:Int),(j:Int),dep,pos,g,ws,c,())=some ((i:Int)==(j:Int),g,ws,c,[],()):=rfl
  rw [e0];by_cases h:i=j
  ·refine Ok.some (Or.inr ⟨.nil,h,⟨rfl,h⟩,?_⟩)
   subst h;rw [beq_self_eq_true];rfl
  ·refine Ok.some (Or.inl ⟨h,?_⟩)
   rw [beq_eq_false_iff_ne.2 (by omega)]
 | x::rest,hrow,hl,hRC,hH,hm=>
  have hbig:=hg.big
  have hlc:(x::rest).length=rest.length+1:=rfl
  have hrh:=jk h x rest
  have hrt:=qG x rest
  have hrn:=Yf h rest
  have hx1:=hrow x List.mem_cons_self
  have hrest: ∀y∈rest, -100000≤y∧y<g.2.1.length:=fun y hy=>hrow y (List.mem_cons_of_mem _ hy)
  have hne:(((x::rest).length:Int)==0)=false:=by rw [beq_eq_false_iff_ne];omega
  show Ok (bif (((x::rest).length:Int)==0) then some ((i:Int)==(j:Int),g,ws,c,[],()) else _) _
  rw [hne];simp only [cond_false];refine Ok.atV (l:=x::rest) (v:=x) (z:=0) (by omega) rfl ?_
  refine Ok.bind (Q:=fun r=>(x<0∧((¬Spl ws c (x::rest) i j∧r=Sum.inl (false,g,ws,c,[],()))∨(∃F,Spl ws c (x::rest) i j∧Der g ws F (x::rest) i j∧r=Sum.inl (true,g,ws,c,flat dep pos F,()))))∨(0≤x∧r=Sum.inr (x::rest,(i:Int),(j:Int),dep,pos,x,g,ws,c,()))) ?_ ?_
  ·refine Ok.dec (p:=x<0) (fun hneg=> ?_) (fun hnn=>Ok.some (Or.inr ⟨by omega,rfl⟩))
   rw [if_pos hneg] at hrh hrt;have hwx:w64 (-1-x)= -1-x:=zl (by omega) (by omega)
   refine Ok.bind (Q:=fun p=> ∃d:Bool,(d=false ↔ ∃w,ws[i]? = some w∧w.1= -1-x∧Spl ws c rest (i+1) j)∧p=(x::rest,(i:Int),(j:Int),dep,x,d,g,ws,c,())) ?_ ?_
   ·refine Ok.dec (p:=(i:Int)≥(j:Int)) (fun hge=>Ok.some ⟨true,⟨(fun e=>nomatch e),fun ⟨w,_,_,h3⟩=>by have:=h3.le;omega⟩,rfl⟩) (fun hlt=> ?_)
    have hwi:w64 ((i:Int)+1)=((i+1:Nat):Int):=by rw [zl (by omega) (by omega)];rfl
    obtain ⟨w,hww⟩:=zJ (l:=ws) (i:=i) (by omega)
    refine Ok.atV (by omega) hww ?_
    rw [hwx,hwi];refine Ok.cond (fun hne=>Ok.some ⟨true,⟨(fun e=>nomatch e),fun ⟨w',h1,h2,_⟩=> ?_⟩,rfl⟩) (fun heq=>Ok.hi (by omega) (by show (1:Int)≤((x::rest).length:Nat);omega) ?_)
    ·rw [hww] at h1;rw [Option.some.inj h1,h2] at hne;simp at hne
    ·have hweq:w.1= -1-x:=by simpa using heq
     refine Ok.bind (UY (row:=rest) (g:=g) (ws:=ws) (start:=i+1) hc hrest (by omega) (by omega) (by omega) rfl k (by omega) (by omega)) ?_
     rintro _ ⟨bs,hbs,hbb,rfl⟩
     obtain ⟨v,hv⟩:=zJ (l:=bs) (i:=j) (by omega)
     refine Ok.atV (by omega) hv (Ok.getV hv (Ok.some ⟨_,?_,rfl⟩))
     have h5:=hbb j
     rw [QW hv] at h5;constructor
     ·intro h6;exact ⟨w,hww,hweq,h5.1 (by revert h6;cases v<;>simp)⟩
     ·rintro ⟨_,_,_,h6⟩
      rw [h5.2 h6];rfl
   ·rintro _ ⟨d,hd3,rfl⟩
    refine Ok.cond (fun hdt=>Ok.some (Or.inl ⟨hneg,Or.inl ⟨fun hsp=> ?_,rfl⟩⟩)) (fun hdf=> ?_)
    ·obtain ⟨m,h1 | ⟨h1,_⟩,h2⟩:=hsp
     ·obtain ⟨_,w,h3,h4,rfl⟩:=h1
      rw [hd3.2 ⟨w,h3,h4,h2⟩] at hdt;exact nomatch hdt
     ·omega
    ·obtain ⟨w,hww,hwt,hsp⟩:=hd3.1 hdf
     have hle:=hsp.le.1
     have hwi:w64 ((i:Int)+1)=((i+1:Nat):Int):=by rw [zl (by omega) (by omega)];rfl
     refine Ok.hi (by omega) (by show (1:Int)≤((x::rest).length:Nat);omega) ?_
     refine Ok.atV (z:=(i:Int)) (by omega) hww ?_
     rw [hwi];refine Ok.bind (he rest (i+1) j dep w.2.2.1 M hrest (by omega) (by omega) hj hd hd2 hM ?_ (by omega) (by omega)) ?_
     ·intro y hy hy0;have:=hRC y (List.mem_cons_of_mem _ hy) hy0
      rw [hrt] at this;omega
     ·rintro _ (⟨hn,rfl⟩ | ⟨F,_,hF,rfl⟩)
      ·exact absurd hsp hn
      ·have hDer:Der g ws (.word w F) (x::rest) i j:=⟨x,rest,rfl,hneg,hww,hwt,hF⟩
       have hsm:=hDer.small hr dep pos hH (by omega)
       have hsm':(flat dep w.2.2.1 F).length+1≤1250:=hsm
       refine Ok.atV (z:=(i:Int)) (by omega) hww (Ok.atV (z:=(i:Int)) (by omega) hww (Ok.room (by show 1+(flat dep w.2.2.1 F).length≤_;omega) (by omega) (Ok.some (Or.inl ⟨hneg,Or.inr ⟨.word w F,⟨i+1,Or.inl ⟨hneg,w,hww,hwt,rfl⟩,hsp⟩,hDer,?_⟩⟩))))
       rw [hwx,←hwt];rfl
  ·rintro _ (⟨hneg,⟨hn,rfl⟩ | ⟨F,hsp,hF,rfl⟩⟩ | ⟨hnn,rfl⟩)
   ·exact Ok.some (Or.inl ⟨hn,rfl⟩)
   ·exact Ok.some (Or.inr ⟨F,hsp,hF,rfl⟩)
   ·refine Ok.bind (zhm (pos:=pos) he hg hnt hr hr2 hs hh hw hc hnn hrow hl hij hj hd hd2 hM hRC hH (by omega) k hk hk2) ?_
    rintro _ (⟨hn,rfl⟩ | ⟨F,hsp,hF,rfl⟩)
    ·exact Ok.some (Or.inl ⟨hn,rfl⟩)
    ·exact Ok.some (Or.inr ⟨F,hsp,hF,rfl⟩)
theorem zda {B:Nat}{g:GrT}{ws:List za}{c:yu}{h:List Nat}(hg:GOk B g)(hnt:g.1.length≤100000)(hr:Rk g 5 h)(hr2:Rk2 g h)(hs:Sd g ws c)
  (hh: ∀r∈g.2.2.2.1,ZI h r.2.1≤1000) (hw:ws.length≤50) (hc:yl g.2.1.length ws.length c) (k:Nat) (hk:B≤k) (hk2:100001<k): ∀d:Nat,ES B g ws c h (zey k d).1 d
 | 0=>fun row i j dep pos M _ _ _ _ _ _ _ _ _ hm=>absurd hm (Nat.not_lt_zero _)
 | d+1=>zgv (zda hg hnt hr hr2 hs hh hw hc k hk hk2 d) hg hnt hr hr2 hs hh hw hc k hk hk2
theorem zmi:grs.all (fun g=>decide (g.1.length≤100) && [[0,1],[1,0],[0,1,0,0,1],[0]].any fun h=>zgI 5 h g&&g.2.2.2.1.all fun r=>r.2.1.all fun x=>decide (x<0) || decide (((h.getD x.toNat 0:Nat):Int)+1≤((h.getD r.1.toNat 0:Nat):Int)+YN r.2.1*2))=true:=by kernel_rfl
structure Gs (g:GrT):Prop where
 gv:Gv g
 nt:g.1.length≤100
 rk: ∃h:List Nat,Rk g 5 h∧Rk2 g h∧(∀r∈g.2.2.2.1,ZI h r.2.1≤1000)∧h.getD 0 0≤1
theorem Gs.of {g:GrT}(h:zam g)(hm:g∈grs):Gs g:=by
 have h1:=List.all_eq_true.1 zmi g hm
 simp only [Bool.and_eq_true,Bool.or_eq_true,zgI,decide_eq_true_eq,List.all_eq_true,List.any_eq_true] at h1;obtain ⟨h0,hh,hm2,h3,h4⟩:=h1
 refine ⟨Gv.of h hm,h0,hh,⟨by omega,fun r hr=>(h3 r hr).1⟩,fun r hr x hx h0=> ?_,fun r hr=>(h3 r hr).2,?_⟩
 ·rcases h4 r hr x hx with h5 | h5
  ·omega
  ·exact h5
 ·simp only [List.mem_cons,List.not_mem_nil,or_false] at hm2;rcases hm2 with rfl | rfl | rfl | rfl<;>decide
theorem zh0 {g:GrT}(hg:Gs g){ws:List za}(hw:ws.length≤50)(pos:Int) :
  Ok (zja K0 (g,ws,pos,())) fun r=>r=([],0,()) ∨ ∃(m q:Nat) (ks:zK),0<m∧m≤ws.length∧Der g ws (.name q ks .nil) [0] 0 m∧r=(flat 0 pos (.name q ks .nil),(m:Int),()):=by
 obtain ⟨h,hr,hr2,hh,h0⟩:=hg.rk
 have hnt:=hg.nt
 have hgo:=hg.gv.gok
 have hnr:=hg.gv.nr
 have hpos:=hgo.pos
 have hsq:(ws.length+1)*(ws.length+1)≤51*51:=Nat.mul_le_mul (by omega) (by omega)
 have hcu:g.2.1.length*((ws.length+1)*(ws.length+1))≤20*(51*51):=Nat.mul_le_mul hnr hsq
 refine Ok.bind (zhY (ws:=ws) hgo (by omega) (by omega) K0 (by show _<200000;omega) (by decide) (by show _<200000;omega)) ?_
 rintro _ ⟨c,hc,hs,rfl⟩
 refine Ok.bind (Q:=fun r=>r=Sum.inl () ∨ ∃(m q:Nat) (ks:zK),0<m∧m≤ws.length∧Der g ws (.name q ks .nil) [0] 0 m∧r=Sum.inr ((m:Int),flat 0 pos (.name q ks .nil),())) ?_ ?_
 ·refine Ok.iter (fun p=> ∃m:Nat,m≤ws.length∧p=(pos,(m:Int),g,ws,c,())) (fun p=>p.2.1.toNat) ?_ K0 _ ⟨ws.length,Nat.le_refl _,rfl⟩ (by show ((ws.length:Nat):Int).toNat<200000;omega)
  rintro _ ⟨m,hm,rfl⟩
  refine Ok.dec (p:=(m:Int)>0) (fun hgt=> ?_) (fun _=>Ok.some (Or.inl rfl))
  obtain ⟨a1,a2,b,ha1,ha2,hb,hbit⟩:=hc.get (x:=0) (i:=0) (j:=m) (by omega) (by omega) (by omega)
  refine Ok.atV (z:=0) (by omega) ha1 (Ok.getV ha1 (Ok.getV ha1 (Ok.atV (z:=0) (by omega) ha2 (Ok.getV ha1 (Ok.getV ha2 (Ok.getV ha1 (Ok.getV ha2 (Ok.atV (by omega) hb (Ok.getV ha1 (Ok.getV ha2 (Ok.getV hb ?_)))))))))))
  refine Ok.cond (fun hbt=> ?_) (fun _=> ?_)
  ·have hP:=zda (k:=K0) hgo (by omega) hr hr2 hs hh hw hc (by decide) (by decide) K0
   refine Ok.bind (za8 (A:=0) (i:=0) (j:=m) (dep:=0) (pos:=pos) hP hgo (by omega) hr hr2 hs hh hw (by omega) (by omega) hm (by omega) ?_ (by show bit c 0 0 m=true;rw [hbit];exact hbt) (by decide) K0 (by decide) (by decide)) ?_
   ·have h0':h.getD (Int.toNat 0) 0≤1:=h0
    omega
   ·rintro _ ⟨q,ks,hD,rfl⟩
    exact Ok.some (Or.inr ⟨m,q,ks,by omega,hm,hD,rfl⟩)
  ·have hw:w64 ((m:Int)-1)=((m-1:Nat):Int):=by rw [zl (by omega) (by omega)];omega
   refine Ok.some ⟨⟨m-1,by omega,?_⟩,?_⟩
   ·show (pos,w64 ((m:Int)-1),g,ws,c,())=_
    rw [hw]
   ·show (w64 ((m:Int)-1)).toNat<((m:Int)).toNat
    rw [hw];omega
 ·rintro _ (rfl | ⟨m,q,ks,u1,u2,u3,rfl⟩)
  ·exact Ok.some (Or.inl rfl)
  ·exact Ok.some (Or.inr ⟨m,q,ks,u1,u2,u3,rfl⟩)
theorem zh2 {nt:Nat}{d:ql}(h:Xu nt d){bs:List Int}(hb: ∀x∈bs,0≤x∧x<256)
  (hl:bs.length<100000) {k:Nat} (hk:bs.length<k) (hn:(d.2.1.length:Int)<9223372036854775807) :
  Ok (zjc k (d,bs,())) fun r=>WOk nt bs.length r.1∧r.1.length≤bs.length∧ ∀w,r.1[0]? = some w→w.2.1=0:=by
 show Ok (Option.bind (iter k (zfs k) (bs,0,d,[],())) _) _
 refine Ok.bind (Q:=fun (r:List za×Unit)=>WOk nt bs.length r.1∧r.1.length≤bs.length∧ ∀w,r.1[0]? = some w→w.2.1=0) ?_ ?_
 ·refine Ok.iter (fun p=> ∃(i:Nat) (ws:List za),i≤bs.length∧WOk nt (i:Int) ws∧ws.length≤i∧(ws= []→i=0)∧(∀w,ws[0]? = some w→w.2.1=0)∧p=(bs,(i:Int),d,ws,()))
   (fun p=>(bs.length-p.2.1).toNat) ?_ k _ ⟨0,[],by omega,⟨fun w hw=>(nomatch hw),List.Pairwise.nil⟩,Nat.le_refl _,fun _=>rfl,fun w hw=>(nomatch hw),rfl⟩
   (by show ((bs.length:Int)-0).toNat<k;omega)
  rintro _ ⟨i,ws,hi,hws,hlen,hz,hf,rfl⟩
  refine Ok.hi (by omega) (by omega) ?_
  have hdl:(slC (some (i:Int)) none (Int.toNat (i:Int)) bs.length bs).length=bs.length-i:=by
   show (bs.drop i).length=_
   rw [List.length_drop]
  refine Ok.bind (zhZ h (bs:=slC (some (i:Int)) none (Int.toNat (i:Int)) bs.length bs) (fun x hx=>hb x (List.mem_of_mem_drop (i:=i) hx)) (by omega) (k:=k) (by omega) hn) ?_
  rintro ⟨x,n,u⟩ hr
  refine Ok.dec (p:=x<0) (fun _=>Ok.some ⟨hws.mono (by omega),by show ws.length≤_;omega,hf⟩) (fun hx=> ?_)
  rw [hdl] at hr;have hr2:0≤x∧x<nt∧1≤n∧n≤((bs.length-i:Nat):Int):=by
   rcases hr with e | e
   ·have e1:x= -1:=congrArg Prod.fst e
    omega
   ·exact e
  have hw:w64 ((i:Int)+n)=((i+n.toNat:Nat):Int):=by rw [zl (by omega) (by omega)];omega
  refine Ok.room (by show ws.length+1≤_;omega) (by omega) (Ok.some ⟨⟨i+n.toNat,ws ++ [(x,(i:Int),((i+n.toNat:Nat):Int),())],by omega,hws.push hr2.1 hr2.2.1 (by omega) (by omega),by rw [List.length_append];show ws.length+1≤_;omega,fun e=> ?_,fun w hw0=> ?_,?_⟩,?_⟩)
  ·have:=congrArg List.length e
   rw [List.length_append] at this;exact absurd this (Nat.succ_ne_zero _)
  ·cases ws with
   | nil=>
    have e:(x,(i:Int),((i+n.toNat:Nat):Int),())=w:=Option.some.inj hw0
    have:=hz rfl
    rw [←e];show (i:Int)=0
    omega
   | cons a l=>exact hf w hw0
  ·show (bs,w64 ((i:Int)+n),d,ws ++ [(x,(i:Int),w64 ((i:Int)+n),())],())=_
   rw [hw]
  ·show ((bs.length:Int)-w64 ((i:Int)+n)).toNat<((bs.length:Int)-(i:Int)).toNat
   rw [hw];omega
 ·rintro ⟨ws,u⟩ hr
  exact Ok.some hr
def kpS (g:GrT)(w:za):Bool:=match g.1[w.1.toNat]? with
 | some t => !t.2.2.1
 | none=>true
theorem zh1 {g:GrT}{n:Int}{ws:List za}(h:WOk g.1.length n ws)(hl:ws.length<100000){k:Nat}(hk:ws.length<k):zjb k (g,ws,())=some (ws.filter (kpS g),()):=by
 refine Ok.val ?_
 show Ok (Option.bind (iter k (zfr k) (ws,0,g,[],())) _) _
 refine Ok.bind (Q:=fun (r:List za×Unit)=>r=(ws.filter (kpS g),())) ?_ ?_
 ·refine Ok.iter (fun p=> ∃(i:Nat),i≤ws.length∧p=(ws,(i:Int),g,(ws.take i).filter (kpS g),()))
   (fun p=>(ws.length-p.2.1).toNat) ?_ k _ ⟨0,by omega,rfl⟩
   (by show ((ws.length:Int)-0).toNat<k;omega)
  rintro _ ⟨i,hi,rfl⟩
  refine Ok.dec (p:=(i:Int)<(ws.length:Int)) (fun hlt=> ?_) (fun hge=>Ok.some ?_)
  ·have hlen:=List.length_filter_le (kpS g) (ws.take i)
   rw [List.length_take] at hlen;have hw:w64 ((i:Int)+1)=((i+1:Nat):Int):=by rw [zl (by omega) (by omega)];rfl
   obtain ⟨w,hww⟩:=zJ (l:=ws) (i:=i) (by omega)
   have hx:=h.at' w (List.mem_of_getElem? hww)
   obtain ⟨t,ht⟩:=zJ (l:=g.1) (i:=w.1.toNat) (by omega)
   have hkp:kpS g w = !t.2.2.1:=by unfold kpS;rw [ht]
   refine Ok.bind (Q:=fun p=>p=(ws,(i:Int),kpS g w,g,(ws.take i).filter (kpS g),())) ?_ ?_
   ·refine Ok.atV (by omega) hww ?_
    refine Ok.dec (p:=w.1<0) (fun _=>by omega) (fun _=> ?_)
    refine Ok.atV (by omega) hww ?_
    refine Ok.dec (p:=w.1≥(g.1.length:Int)) (fun _=>by omega) (fun _=> ?_)
    refine Ok.atV (by omega) hww ?_
    exact Ok.atV hx.1 ht (Ok.some (by rw [hkp]))
   ·rintro _ rfl
    refine Ok.bind (Q:=fun p=>p=(ws,(i:Int),g,(ws.take (i+1)).filter (kpS g),())) ?_ ?_
    ·rw [List.take_add_one,hww,List.filter_append];refine Ok.cond (fun e=> ?_) (fun e=>Ok.some ?_)
     ·refine Ok.atV (by omega) hww (Ok.room (by show _+1≤_;omega) (by omega) (Ok.some ?_))
      have e2:(Option.toList (some w)).filter (kpS g)= [w]:=by
       show List.filter _ [w]= [w]
       rw [List.filter_cons,e];rfl
      rw [e2]
     ·have e2:(Option.toList (some w)).filter (kpS g)= []:=by
       show List.filter _ [w]= []
       rw [List.filter_cons,e];rfl
      rw [e2,List.append_nil]
    ·rintro _ rfl
     refine Ok.some ⟨⟨i+1,by omega,?_⟩,?_⟩
     ·show (ws,w64 ((i:Int)+1),g,_,())=_
      rw [hw]
     ·show ((ws.length:Int)-w64 ((i:Int)+1)).toNat<((ws.length:Int)-(i:Int)).toNat
      rw [hw];omega
  ·have e:i=ws.length:=by omega
   subst e;rw [List.take_length]
 ·rintro _ rfl
  exact Ok.some rfl
def Gd:Int→zK→Prop
 | _,.nil=>True
 | lo,.word w r=>lo≤w.2.1∧w.2.1<w.2.2.1∧0≤w.1∧Gd w.2.2.1 r
 | lo,.name _ ks r=>Gd lo ks∧Gd (zt lo ks) r
theorem Gd.le: ∀ {F:zK} {lo:Int},Gd lo F→lo≤zH lo F∧zH lo F≤zt lo F
 | .nil,lo,_=>⟨Int.le_refl _,Int.le_refl _⟩
 | .word w r,lo,h=>by
  have:=Gd.le h.2.2.2
  have h1:=h.1
  have h2:=h.2.1
  refine ⟨h1,?_⟩
  show w.2.1≤zt w.2.2.1 r
  omega
 | .name k ks r,lo,h=>by
  have h1:=Gd.le h.1
  have h2:=Gd.le h.2
  refine ⟨h1.1,?_⟩
  show zH lo ks≤zt (zt lo ks) r
  omega
theorem Der.gd {g:GrT}{ws:List za}{n:Int}(hws:WOk g.1.length n ws): ∀ {F:zK} {row:List Int} {i j:Nat} {pos:Int},Der g ws F row i j→(∀w,ws[i]? = some w→pos≤w.2.1)→Gd pos F
 | .nil,_,_,_,_,_,_=>trivial
 | .word w r,_,i,j,pos,⟨x,row',_,_,hw,_,k⟩,hp=>by
  have h1:=hws.at' w (List.mem_of_getElem? hw)
  refine ⟨hp w hw,h1.2.2.2.1,h1.1,Der.gd hws k fun v hv=> ?_⟩
  obtain ⟨a1,a2⟩:=List.getElem?_eq_some_iff.1 hw
  obtain ⟨b1,b2⟩:=List.getElem?_eq_some_iff.1 hv
  have:=List.pairwise_iff_getElem.1 hws.row i (i+1) a1 b1 (by omega)
  rw [a2,b2] at this;exact this
 | .name q ks r,_,i,j,pos,⟨x,row',rl,m,_,_,_,_,k1,k2⟩,hp=>by
  refine ⟨Der.gd hws k1 hp,Der.gd hws k2 fun v hv=> ?_⟩
  have hle:=k1.le
  rw [k1.end_eq pos];by_cases e:i<m
  ·rw [if_pos e];obtain ⟨b1,b2⟩:=List.getElem?_eq_some_iff.1 hv
   have:=List.pairwise_iff_getElem.1 hws.row (m-1) m (by omega) b1 (by omega)
   unfold toW;rw [List.getD_eq_getElem?_getD,List.getElem?_eq_getElem (by omega)];rw [b2] at this;exact this
  ·rw [if_neg e];have e2:m=i:=by omega
   subst e2;exact hp v hv
theorem Der.from_eq {g:GrT}{ws:List za}: ∀ {F:zK} {row:List Int} {i j:Nat} (pos:Int),Der g ws F row i j→zH pos F=pos ∨ ∃w,ws[i]? = some w∧zH pos F=w.2.1
 | .nil,_,_,_,_,_=>Or.inl rfl
 | .word w r,_,i,j,pos,⟨x,row',_,_,hw,_,k⟩=>Or.inr ⟨w,hw,rfl⟩
 | .name q ks r,_,i,j,pos,⟨x,row',rl,m,_,_,_,_,k1,k2⟩=>by
  have h:=Der.from_eq pos k1
  exact h
def IsT (a b:Int)(ns:List zb):Prop:= ∃(q:Nat) (ks:zK),ns=flat 0 a (.name q ks .nil)∧Gd a ks∧zH a ks=a∧zt a ks=b∧0≤a∧a<b∧b≤20000∧ns.length≤1250
theorem zh3 {g:GrT}(hg:Gs g){d:ql}(hd:Xu g.1.length d)(hn:d.2.1.length<100000){bs:List Int}(hb: ∀x∈bs,0≤x∧x<256)(hl:bs.length<10000) :
  Ok (zjd K0 (g,d,bs,())) fun r=>r=([],0,())∨(IsT 0 r.2.1 r.1∧r.2.1≤bs.length):=by
 have hm0:=hg.gv.most0
 have hm:=hg.gv.most
 have hmin:=zjI g.2.2.2.2.2.2.1 (bs.length:Int)
 refine Ok.hi (by rw [hmin];omega) (by rw [hmin];omega) ?_
 rw [hmin];have hts:slC Option.none (Option.some (min g.2.2.2.2.2.2.1 (bs.length:Int))) 0 (min g.2.2.2.2.2.2.1 (bs.length:Int)).toNat bs=bs.take (min g.2.2.2.2.2.2.1 (bs.length:Int)).toNat:=rfl
 rw [hts];have htl:(bs.take (min g.2.2.2.2.2.2.1 (bs.length:Int)).toNat).length≤50:=by rw [List.length_take];omega
 have htl2:(bs.take (min g.2.2.2.2.2.2.1 (bs.length:Int)).toNat).length≤bs.length:=by rw [List.length_take];omega
 have htb: ∀x∈bs.take (min g.2.2.2.2.2.2.1 (bs.length:Int)).toNat,0≤x∧x<256:=fun x hx=>hb x (List.mem_of_mem_take hx)
 generalize bs.take (min g.2.2.2.2.2.2.1 (bs.length:Int)).toNat=ts at htl htl2 htb ⊢
 refine Ok.bind (zh2 hd htb (by omega) (k:=K0) (by show _<200000;omega) (by omega)) ?_
 rintro ⟨ws,u⟩ ⟨hws,hwl,hf⟩
 have hwl':ws.length≤ts.length:=hwl
 refine Ok.bind (Q:=fun p=> ∃b,(b=false→ ∃w,ws[0]? = some w∧kpS g w=true)∧p=(b,g,ws,())) ?_ ?_
 ·refine Ok.cond (fun _=>Ok.some ⟨true,(fun e=>nomatch e),rfl⟩) (fun e=> ?_)
  have e2:(ws.length:Int)≠0:=beq_eq_false_iff_ne.1 e
  obtain ⟨v,hv⟩:=zJ (l:=ws) (i:=0) (by omega)
  refine Ok.atV (z:=0) (by omega) hv (Ok.getV hv ?_)
  have hv2:=hws.at' v (List.mem_of_getElem? hv)
  obtain ⟨t,ht⟩:=zJ (l:=g.1) (i:=v.1.toNat) (by omega)
  refine Ok.atV hv2.1 ht (Ok.some ⟨_,fun e3=>⟨v,hv,?_⟩,rfl⟩)
  unfold kpS;rw [ht];show (!t.2.2.1)=true
  rw [e3];rfl
 ·rintro _ ⟨b,hbk,rfl⟩
  refine Ok.cond (fun _=>Ok.some (Or.inl rfl)) (fun hbf=> ?_)
  obtain ⟨w0,hw0,hk0⟩:=hbk hbf
  refine Ok.eq (zh1 (g:=g) hws (by omega) (k:=K0) (by show _<200000;omega)) ?_
  have hsub:(ws.filter (kpS g)).Sublist ws:=List.filter_sublist
  have hvs:=hws.sub hsub
  have hvl:=List.Sublist.length_le hsub
  have hv0:(ws.filter (kpS g))[0]? = some w0:=by
   cases ws with
   | nil=>exact nomatch hw0
   | cons a l=>
    have e:a=w0:=Option.some.inj hw0
    subst e;rw [List.filter_cons,hk0];rfl
  have hfrom:=hf w0 hw0
  generalize ws.filter (kpS g)=vs at hvs hvl hv0 ⊢
  refine Ok.bind (zh0 hg (ws:=vs) (by omega) 0) ?_
  rintro _ (rfl | ⟨m,q,ks,h1,h2,hD,rfl⟩)
  ·exact Ok.tt rfl (Ok.some (Or.inl rfl))
  ·refine Ok.ff (by rw [beq_eq_false_iff_ne];show (m:Int)≠0;omega) ?_
   have hw:w64 ((m:Int)-1)=((m-1:Nat):Int):=by rw [zl (by omega) (by omega)];omega
   obtain ⟨v,hv⟩:=zJ (l:=vs) (i:=m-1) (by omega)
   have hv2:=hvs.at' v (List.mem_of_getElem? hv)
   show Ok ((at? vs (w64 ((m:Int)-1))).bind _) _
   rw [hw];refine Ok.atV (by omega) hv (Ok.getV hv (Ok.some (Or.inr ⟨⟨q,ks,rfl,?_⟩,by show v.2.2.1≤_;omega⟩)))
   have hgd:=hD.gd hvs (pos:=0) (fun w hw=>by rw [hv0] at hw;rw [←Option.some.inj hw];omega)
   obtain ⟨h,hr,_,hh,h0⟩:=hg.rk
   have hsm:((flat 0 0 (.name q ks .nil)).length:Int)≤_:=hD.len hr 0 0
   have hrh:ZI h [0]=((h.getD 0 0:Nat):Int):=by
    rw [jk,if_neg (by omega)];show _+(0:Int)=_
    rw [Int.add_zero];rfl
   have hrt:YN [0]=0:=by rw [qG,if_neg (by omega)];rfl
   rw [hrh,hrt] at hsm;have hen:zt 0 ks=v.2.2.1:=by
    have:=hD.end_eq 0
    rw [if_pos h1] at this;unfold toW at this;rw [List.getD_eq_getElem?_getD,hv] at this;exact this
   have hfr:zH 0 ks=0:=by
    rcases hD.from_eq 0 with e | ⟨w,hw,e⟩
    ·exact e
    ·rw [hv0] at hw;have e2:zH 0 ks=w.2.1:=e
     rw [e2,←Option.some.inj hw];exact hfrom
   exact ⟨hgd.1,hfr,hen,Int.le_refl _,by show 0<v.2.2.1;omega,by show v.2.2.1≤_;omega,by show (flat 0 0 (.name q ks .nil)).length≤_;omega⟩
def mvG (b:Int):zK→zK
 | .nil=> .nil
 | .word w r=> .word (w.1,w.2.1+b,w.2.2.1+b,()) (mvG b r)
 | .name k ks r=> .name k (mvG b ks) (mvG b r)
theorem Yn (b:Int): ∀(F:zK) (pos:Int),zt (pos+b) (mvG b F)=zt pos F+b
 | .nil,_=>rfl
 | .word w r,_=>Yn b r _
 | .name k ks r,pos=>by
  show zt (zt (pos+b) (mvG b ks)) (mvG b r)=zt (zt pos ks) r+b
  rw [Yn b ks,Yn b r]
theorem XU (b:Int): ∀(F:zK) (pos:Int),zH (pos+b) (mvG b F)=zH pos F+b
 | .nil,_=>rfl
 | .word _ _,_=>rfl
 | .name _ ks _,pos=>XU b ks pos
theorem Gd.mv (b:Int): ∀ {F:zK} {lo:Int},Gd lo F→Gd (lo+b) (mvG b F)
 | .nil,_,_=>trivial
 | .word w r,_,h=>by
  have h1:=h.1
  have h2:=h.2.1
  refine ⟨?_,?_,h.2.2.1,Gd.mv b h.2.2.2⟩
  ·show _≤w.2.1+b;omega
  ·show w.2.1+b<w.2.2.1+b;omega
 | .name k ks r,lo,h=>by
  refine ⟨Gd.mv b h.1,?_⟩
  rw [Yn];exact Gd.mv b h.2
theorem Xa {b:Int}(hb: -100000≤b)(hb2:b≤100000): ∀ {F:zK} (d:Int) {pos:Int},Gd pos F→ -1000000≤pos→zt pos F≤1000000→(flat d pos F).map (mvN b)=flat d (pos+b) (mvG b F)
 | .nil,_,_,_,_,_=>rfl
 | .word w r,d,pos,h,hp,he=>by
  have h1:=h.1
  have h2:=h.2.1
  have hr:=Gd.le h.2.2.2
  have he':zt w.2.2.1 r≤1000000:=he
  show (d, -1,w.1,w64 (w.2.1+b),w64 (w.2.2.1+b),())::(flat d w.2.2.1 r).map (mvN b)=_
  rw [zl (by omega) (by omega),zl (by omega) (by omega),Xa hb hb2 d h.2.2.2 (by omega) he'];rfl
 | .name k ks r,d,pos,h,hp,he=>by
  have h1:=Gd.le h.1
  have h2:=Gd.le h.2
  have he':zt (zt pos ks) r≤1000000:=he
  show (d,(k:Int), -1,w64 (zH pos ks+b),w64 (zt pos ks+b),())::(flat (d+1) pos ks++flat d (zt pos ks) r).map (mvN b)=_
  rw [zl (by omega) (by omega),zl (by omega) (by omega),List.map_append,Xa hb hb2 (d+1) h.1 hp (by omega),Xa hb hb2 d h.2 (by omega) he',←XU,←Yn];rfl
theorem IsT.mv {b:Int}{ns:List zb}(h:IsT 0 b ns){i:Int}(hi:0≤i)(hb:i+b≤20000):IsT i (i+b) (ns.map (mvN i)):=by
 obtain ⟨q,ks,rfl,h1,h2,h3,h4,h5,h6,h7⟩:=h
 have hg:Gd 0 (.name q ks .nil):=⟨h1,trivial⟩
 have e:=Xa (b:=i) (by omega) (by omega) 0 hg (by omega) (by show zt 0 ks≤_;omega)
 have h1':=Gd.mv i h1
 have h2':=XU i ks 0
 have h3':=Yn i ks 0
 rw [Int.zero_add] at h1' h2' h3' e;exact ⟨q,mvG i ks,e,h1',by omega,by omega,hi,by omega,hb,by rw [List.length_map];exact h7⟩
structure zbs (n:Int) (ss:List zx):Prop where
 row:Row 0 n ss
 tree: ∀s∈ss,s.2.2.1= []∨IsT s.1 s.2.1 s.2.2.1
theorem zbs.push {n m:Int}{ss:List zx}(h:zbs n ss)(hm:n<m){ns:List zb}(hn:ns= []∨IsT n m ns):zbs m (ss ++ [(n,m,ns,())]):=by
 have h1:Row n m [(n,m,ns,())]:=⟨rfl,hm,rfl⟩
 refine ⟨Row.append h1 h.row,fun s hs=> ?_⟩
 rcases List.mem_append.1 hs with hs | hs
 ·exact h.tree s hs
 ·rw [List.mem_singleton.1 hs];exact hn
theorem zh4 {g:GrT}(hg:Gs g){bs:List Int}(hb: ∀x∈bs,0≤x∧x<256)(hl:bs.length<10000) :
  Ok (zje K0 (g,bs,0,())) fun r=>zbs bs.length r.1:=by
 obtain ⟨d,⟨x,u⟩,he,hd,hn⟩:=hg.gv.dfa
 refine Ok.eq he ?_
 refine Ok.bind (Q:=fun r=>zbs bs.length r.1) ?_ ?_
 ·refine Ok.iter (fun p=> ∃(i:Nat) (ss:List zx),i≤bs.length∧zbs i ss∧p=(bs,0,(i:Int),g,ss,d,()))
   (fun p=>((bs.length:Int)-p.2.2.1).toNat) ?_ K0 _ ⟨0,[],by omega,⟨rfl,fun s hs=>nomatch hs⟩,rfl⟩ (by show ((bs.length:Int)-0).toNat<200000;omega)
  rintro _ ⟨i,ss,hi,hss,rfl⟩
  have hlen:=hss.row.len
  have hw0:w64 (0+(i:Int))=(i:Int):=by rw [Int.zero_add];exact zl (by omega) (by omega)
  have hw:w64 ((i:Int)+1)=((i+1:Nat):Int):=by rw [zl (by omega) (by omega)];rfl
  refine Ok.dec (p:=(i:Int)<(bs.length:Int)) (fun hlt=> ?_) (fun hge=>Ok.some ?_)
  ·refine Ok.bind (Q:=fun p=> ∃(j:Nat) (ss:List zx),i<j∧j≤bs.length∧zbs j ss∧p=(bs,0,(j:Int),g,ss,d,())) ?_ ?_
   ·refine Ok.hi (by omega) (by omega) ?_
    have hdl:(slC (some (i:Int)) none (Int.toNat (i:Int)) bs.length bs).length=bs.length-i:=by
     show (bs.drop i).length=_
     rw [List.length_drop]
    refine Ok.bind (zh3 hg hd hn (bs:=slC (some (i:Int)) none (Int.toNat (i:Int)) bs.length bs) (fun x hx=>hb x (List.mem_of_mem_drop (i:=i) hx)) (by omega)) ?_
    rw [hdl];rintro ⟨ns,m,u⟩ (e | ⟨hT,h2⟩)
    ·have e1:m=0:=congrArg (·.2.1) e
     subst e1;refine Ok.tt rfl (Ok.room (by show ss.length+1≤_;omega) (by omega) (Ok.some ⟨i+1,ss ++ [((i:Int),((i+1:Nat):Int),[],())],by omega,by omega,hss.push (by omega) (Or.inl rfl),?_⟩))
     rw [hw0,hw]
    ·have h2':m≤((bs.length-i:Nat):Int):=h2
     have hT':IsT 0 m ns:=hT
     have hmv:=hT'.mv (i:=(i:Int)) (by omega) (by omega)
     obtain ⟨_,_,_,_,_,_,_,h6,_,h7⟩:=hT'
     refine Ok.ff (by rw [beq_eq_false_iff_ne];omega) ?_
     refine Ok.eq (zdf ns _ (by omega) K0 (by show _<200000;omega)) ?_
     have hwm:w64 ((i:Int)+m)=((i+m.toNat:Nat):Int):=by rw [zl (by omega) (by omega)];omega
     have em:(i:Int)+m=((i+m.toNat:Nat):Int):=by omega
     rw [em] at hmv;refine Ok.room (by show ss.length+1≤_;omega) (by omega) (Ok.some ⟨i+m.toNat,ss ++ [((i:Int),((i+m.toNat:Nat):Int),ns.map (mvN (i:Int)),())],by omega,by omega,hss.push (by omega) (Or.inr hmv),?_⟩)
     rw [hw0,hwm]
   ·rintro _ ⟨j,ss2,hj,hj2,hs2,rfl⟩
    refine Ok.some ⟨⟨j,ss2,hj2,hs2,rfl⟩,?_⟩
    show ((bs.length:Int)-(j:Int)).toNat<((bs.length:Int)-(i:Int)).toNat
    omega
  ·have e:i=bs.length:=by omega
   subst e;exact hss
 ·rintro ⟨ss,u⟩ h
  exact Ok.some h
theorem zhX:zi6 K0 ()=some (true,()):=by kernel_rfl
theorem zhW {a:Int}{tx:List Int}(ha:0≤a)(ha2:a<256)(htx: ∀x∈tx,0≤x∧x<256)(hl:tx.length≤14) :
  Ok (zi5 K0 (a,tx,())) fun r=> ∃(g:GrT) (ss:List zx),ss.length≤280∧(∀s∈ss,IsT s.1 s.2.1 s.2.2.1)∧r=(g,ss,()):=by
 obtain ⟨g,hm,hg,he⟩:=zky a.toNat (by omega)
 rw [Int.toNat_of_nonneg ha] at he;refine Ok.eq he ?_
 refine Ok.bind (zh5 ha ha2 htx (by omega) K0 (by show _<200000;omega)) ?_
 rintro ⟨bs,u⟩ ⟨hb,hbl⟩
 have hbl':bs.length≤20*tx.length:=hbl
 refine Ok.bind (zh4 (Gs.of hg hm) hb (by omega)) ?_
 rintro ⟨ss,u⟩ hs
 have hlen:(ss.length:Int)≤bs.length-0:=Row.len hs.row
 have htr:=hs.tree
 refine Ok.bind (Q:=fun r=> ∃os:List zx,os.length≤280∧(∀s∈os,IsT s.1 s.2.1 s.2.2.1)∧r=(0,g,os,())) ?_ ?_
 ·refine Ok.iter (fun p=> ∃(i:Nat) (os:List zx),i≤ss.length∧os.length≤i∧(∀s∈os,IsT s.1 s.2.1 s.2.2.1)∧p=((i:Int),0,g,os,ss,())) (fun p=>((ss.length:Int)-p.1).toNat) ?_ K0 _ ⟨0,[],by omega,Nat.le_refl _,(fun s hs=>nomatch hs),rfl⟩ (by show ((ss.length:Int)-0).toNat<200000;omega)
  rintro _ ⟨i,os,hi,hol,hos,rfl⟩
  have hw:w64 ((i:Int)+1)=((i+1:Nat):Int):=by rw [zl (by omega) (by omega)];rfl
  refine Ok.dec (p:=(i:Int)<(ss.length:Int)) (fun hlt=> ?_) (fun hge=>Ok.some ⟨os,by omega,hos,rfl⟩)
  obtain ⟨s,hs1⟩:=zJ (l:=ss) (i:=i) (by omega)
  refine Ok.atV (by omega) hs1 (Ok.getV hs1 ?_)
  refine Ok.bind (Q:=fun p=> ∃os':List zx,os'.length≤i+1∧(∀s∈os',IsT s.1 s.2.1 s.2.2.1)∧p=((i:Int),0,g,os',ss,())) ?_ ?_
  ·refine Ok.dec (p:=(s.2.2.1.length:Int)>0) (fun hpos=> ?_) (fun _=>Ok.some ⟨os,by omega,hos,rfl⟩)
   have hT:IsT s.1 s.2.1 s.2.2.1:=by
    rcases htr s (List.mem_of_getElem? hs1) with e | h
    ·rw [e] at hpos;exact absurd hpos (by decide)
    ·exact h
   refine Ok.atV (by omega) hs1 (Ok.getV hs1 (Ok.room (by show os.length+1≤_;omega) (by omega) (Ok.some ⟨os ++ [s],by rw [List.length_append];show os.length+1≤_;omega,fun t ht=> ?_,rfl⟩)))
   rcases List.mem_append.1 ht with ht | ht
   ·exact hos t ht
   ·rw [List.mem_singleton.1 ht];exact hT
  ·rintro _ ⟨os',h1,h2,rfl⟩
   refine Ok.some ⟨⟨i+1,os',by omega,h1,h2,?_⟩,?_⟩
   ·show (w64 ((i:Int)+1),0,g,os',ss,())=_
    rw [hw]
   ·show ((ss.length:Int)-w64 ((i:Int)+1)).toNat<((ss.length:Int)-(i:Int)).toNat
    rw [hw];omega
 ·rintro _ ⟨os,h1,h2,rfl⟩
  exact Ok.some ⟨g,os,h1,h2,rfl⟩
def Rch {P Q:Type}(f:P→Option (P ⊕ Q)):Nat→P→P→Prop
 | 0,p,q=>p=q
 | n+1,p,q=> ∃r,f p=some (.inl r)∧Rch f n r q
theorem Rch.iter {P Q:Type}{f:P→Option (P ⊕ Q)}: ∀ {n k:Nat} {p q:P},Rch f n p q→Go.Pi.iter (n+k) f p=Go.Pi.iter k f q
 | 0,k,p,q,h=>by have h':p=q:=h;subst h';rw [Nat.zero_add]
 | n+1,k,p,q,⟨r,h1,h2⟩=>by
  rw [show n+1+k=(n+k)+1 by omega];show (f p).bind _=_
  rw [h1];exact Rch.iter h2
theorem Rch.trans {P Q:Type}{f:P→Option (P ⊕ Q)}: ∀ {n m:Nat} {p q r:P},Rch f n p q→Rch f m q r→Rch f (n+m) p r
 | 0,m,p,q,r,h,k=>by have h':p=q:=h;subst h';rw [Nat.zero_add];exact k
 | n+1,m,p,q,r,⟨x,h1,h2⟩,k=>by
  rw [show n+1+m=(n+m)+1 by omega];exact ⟨x,h1,Rch.trans h2 k⟩
theorem Rch.one {P Q:Type}{f:P→Option (P ⊕ Q)}{p q:P}(h:f p=some (.inl q)):Rch f 1 p q:=⟨q,h,rfl⟩
theorem Rch.fin {P Q:Type}{f:P→Option (P ⊕ Q)}{n:Nat}{p q:P}{x:Q}(h:Rch f n p q)(hx:f q=some (.inr x)){k:Nat}(hk:n<k):Go.Pi.iter k f p=some x:=by
 have e:=h.iter (k:=k-n)
 rw [show n+(k-n)=k by omega] at e;rw [e,show k-n=(k-n-1)+1 by omega];show (f q).bind _=_
 rw [hx];rfl
def okN (v:zb):Prop:=(0≤v.2.2.1∧v.2.1= -1)∨(v.2.2.1= -1∧0≤v.2.1)
theorem zdc {v:zb}(h:okN v)(k:Nat):zgO k (v,())=some (decide (v.2.2.1≥0),true,()):=by
 refine Ok.val ?_
 refine Ok.bind (Q:=fun r=>r=(decide (v.2.2.1≥0),true,())) ?_ ?_
 ·rcases h with ⟨h1,h2⟩ | ⟨h1,h2⟩
  ·refine Ok.tt (decide_eq_true h1) (Ok.tt (by rw [h2];rfl) (Ok.some rfl))
  ·refine Ok.ff (decide_eq_false (by omega)) (Ok.tt (by rw [h1];rfl) (Ok.some ?_))
   rw [decide_eq_true (show v.2.1≥0 by omega)]
 ·rintro _ rfl
  exact Ok.some rfl
theorem XN {l:List zb}{i:Nat}{v:zb}{O E:List Int}{d:Nat}(hl:l.length≤2000)(hv:l[i]? = some v)(hm:okN v)(hft:v.2.2.2.1≤v.2.2.2.2.1)(hOE:O.length=E.length)
  (hvd:v.1=(d:Int)) (hd:d≤O.length) (hd2:d≤2000)
  (hi:0<i→1≤d∧ ∃pv p pn e,l[i-1]? = some pv∧v.1≤pv.1+1∧pv.1≤2000∧O[d-1]? = some ((p:Nat):Int)∧l[p]? = some pn∧pn.2.2.1= -1∧0≤pn.2.1∧E[d-1]? = some e∧e≤v.2.2.2.1∧v.2.2.2.2.1≤pn.2.2.2.2.1) (k:Nat) :
  Uk k (l,l,(l.length:Int),(i:Int),O,E,())=some (.inl (l,l,(l.length:Int),((i+1:Nat):Int),O.take d ++ [(i:Int)],(if 0<i then (E.set (d-1) v.2.2.2.2.1).take d else E.take d) ++ [v.2.2.2.1],())):=by
 obtain ⟨hil,_⟩:=List.getElem?_eq_some_iff.1 hv
 have hw:w64 ((i:Int)+1)=((i+1:Nat):Int):=by rw [zl (by omega) (by omega)];rfl
 refine Ok.val ?_
 refine Ok.dec (p:=(i:Int)<(l.length:Int)) (fun _=> ?_) (fun h=>by omega)
 refine Ok.atV (by omega) hv ?_
 refine Ok.eq (zdc hm k) ?_
 refine Ok.bind (Q:=fun r=>r=Sum.inr (l,l,(l.length:Int),(i:Int),O.take d ++ [(i:Int)],(if 0<i then (E.set (d-1) v.2.2.2.2.1).take d else E.take d) ++ [v.2.2.2.1],())) ?_ ?_
 ·refine Ok.bind (Q:=fun p=>p=(l,(i:Int),l,(l.length:Int),(i:Int),false,O,E,v,())) ?_ ?_
  ·refine Ok.ff rfl ?_
   refine Ok.dec (p:=v.2.2.2.1>v.2.2.2.2.1) (fun h=>by omega) (fun _=> ?_)
   refine Ok.dec (p:=(i:Int)>0) (fun hi0=> ?_) (fun _=>Ok.some rfl)
   obtain ⟨h1,pv,p,pn,e,h2,h3,h4,_⟩:=hi (by omega)
   refine Ok.dec (p:=v.1<1) (fun h=>by omega) (fun _=> ?_)
   have hwi:w64 ((i:Int)-1)=((i-1:Nat):Int):=by rw [zl (by omega) (by omega)];omega
   rw [hwi];refine Ok.atV (by omega) h2 (Ok.some ?_)
   by_cases hpv: -2000≤pv.1
   ·rw [zl (by omega) (by omega),decide_eq_false (by omega)]
   ·omega
  ·rintro _ rfl
   refine Ok.ff rfl ?_
   refine Ok.hi (by show 0≤v.1;omega) (by show v.1≤(O.length:Nat);omega) ?_
   refine Ok.hi (by show 0≤v.1;omega) (by show v.1≤(E.length:Nat);omega) ?_
   have hdt:Int.toNat v.1=d:=by omega
   show Ok (Option.bind (bif decide ((i:Int)>0) then _ else _) _) _
   rw [hdt];refine Ok.bind (Q:=fun r=>r=Sum.inr (l,l,(l.length:Int),(i:Int),O.take d ++ [(i:Int)],(if 0<i then (E.set (d-1) v.2.2.2.2.1).take d else E.take d) ++ [v.2.2.2.1],())) ?_ ?_
   ·refine Ok.dec (p:=(i:Int)>0) (fun hi0=> ?_) (fun hi0=> ?_)
    ·obtain ⟨h1,pv,p,pn,e,h2,h3,h4,h5,h6,h7,h8,h9,h10,h11⟩:=hi (by omega)
     have hwd:w64 (v.1-1)=((d-1:Nat):Int):=by rw [zl (by omega) (by omega)];omega
     have g5:(List.take (d-0) (List.drop 0 O))[(((d-1:Nat):Int)).toNat]? = some ((p:Nat):Int):=by
      show (List.take d O)[d-1]? = _
      rw [List.getElem?_take,if_pos (by omega)];exact h5
     have g9:(List.take (d-0) (List.drop 0 E))[(((d-1:Nat):Int)).toNat]? = some e:=by
      show (List.take d E)[d-1]? = _
      rw [List.getElem?_take,if_pos (by omega)];exact h9
     have g5':O[0+(((d-1:Nat):Int)).toNat]? = some ((p:Nat):Int):=by rw [Nat.zero_add];exact h5
     have g9':E[0+(((d-1:Nat):Int)).toNat]? = some e:=by rw [Nat.zero_add];exact h9
     rw [hwd];refine Ok.atV (by omega) g5 (Ok.getV g5' ?_)
     refine Ok.atV (by omega) h6 ?_
     refine Ok.eq (zdc (Or.inr ⟨h7,h8⟩) k) ?_
     refine Ok.ff (decide_eq_false (by omega)) ?_
     refine Ok.atV (by omega) g9 (Ok.getV g9' ?_)
     refine Ok.dec (p:=v.2.2.2.1<e) (fun h=>by omega) (fun _=> ?_)
     refine Ok.dec (p:=v.2.2.2.2.1>pn.2.2.2.2.1) (fun h=>by omega) (fun _=> ?_)
     refine Ok.atV (by omega) g9 (Ok.getV g9' ?_)
     refine Ok.ff rfl (Ok.room (by show d-0+1≤_;omega) (by omega) ?_)
     refine Ok.ff rfl (Ok.room (by show d-0+1≤_;omega) (by omega) (Ok.some ?_))
     rw [if_pos (by omega),show 0+(((d-1:Nat):Int)).toNat=d-1 by omega];rfl
    ·refine Ok.ff rfl (Ok.room (by show d-0+1≤_;omega) (by omega) ?_)
     refine Ok.ff rfl (Ok.room (by show d-0+1≤_;omega) (by omega) (Ok.some ?_))
     rw [if_neg (by omega)];rfl
   ·rintro _ rfl
    exact Ok.some rfl
 ·rintro _ rfl
  refine Ok.some ?_
  show Sum.inl (l,l,(l.length:Int),w64 ((i:Int)+1),_,_,())=_
  rw [hw]
def Seg (l:List zb)(i:Nat)(m:List zb):Prop:= ∀t v,m[t]? = some v→l[i+t]? = some v
theorem Seg.left {l:List zb}{i:Nat}{m n:List zb}(h:Seg l i (m++n)):Seg l i m:=fun t v e=>h t v (by
 obtain ⟨h1,_⟩:=List.getElem?_eq_some_iff.1 e
 rw [List.getElem?_append_left h1];exact e)
theorem Seg.right {l:List zb}{i:Nat}{m n:List zb}(h:Seg l i (m++n)):Seg l (i+m.length) n:=fun t v e=>by
 have:=h (m.length+t) v (by rw [List.getElem?_append_right (by omega),show m.length+t-m.length=t by omega];exact e)
 rw [Nat.add_assoc];exact this
theorem Seg.head {l:List zb}{i:Nat}{v:zb}{m:List zb}(h:Seg l i (v::m)):l[i]? = some v:=h 0 v rfl
theorem Seg.tail {l:List zb}{i:Nat}{v:zb}{m:List zb}(h:Seg l i (v::m)):Seg l (i+1) m:=fun t u e=>by
 have:=h (t+1) u e
 rw [show i+1+t=i+(t+1) by omega];exact this
theorem Zw {l:List zb}(hl:l.length≤2000)(k:Nat): ∀(F:zK) {d i p:Nat} {pos:Int} {O E:List Int} {pn pv:zb} {e:Int},Seg l i (flat (d:Int) pos F)→Gd pos F→1≤d→0<i →
  O.length=E.length→d≤O.length→O[d-1]? = some (p:Int)→l[p]? = some pn→pn.2.2.1= -1→0≤pn.2.1→zt pos F≤pn.2.2.2.2.1→E[d-1]? = some e→e≤zH pos F→l[i-1]? = some pv→(d:Int)≤pv.1+1→pv.1≤2000 →
  (∀v∈flat (d:Int) pos F,v.1≤1999) →
  ∃O' E' e' pv',Rch (Uk k) (flat (d:Int) pos F).length (l,l,(l.length:Int),(i:Int),O,E,()) (l,l,(l.length:Int),((i+(flat (d:Int) pos F).length:Nat):Int),O',E',()) ∧
   O'.length=E'.length∧d≤O'.length∧O'.take d=O.take d∧E'.take (d-1)=E.take (d-1)∧E'[d-1]? = some e'∧e'≤zt pos F∧l[i+(flat (d:Int) pos F).length-1]? = some pv'∧(d:Int)≤pv'.1+1∧pv'.1≤2000
 | .nil,d,i,p,pos,O,E,pn,pv,e,_,_,_,_,hOE,hdO,_,_,_,_,_,hE,he,hpv,hpd,hp2,_=>⟨O,E,e,pv,rfl,hOE,hdO,rfl,rfl,hE,he,hpv,hpd,hp2⟩
 | .word w r,d,i,p,pos,O,E,pn,pv,e,hs,hg,hd,hi,hOE,hdO,hO,hp,hpt,hpr,hpe,hE,he,hpv,hpd,hp2,hdep=>by
  have hv:=hs.head
  have hgr:=Gd.le hg.2.2.2
  have h1:=hg.1
  have h2:=hg.2.1
  have hpe':zt w.2.2.1 r≤pn.2.2.2.2.1:=hpe
  have he':e≤w.2.1:=he
  have hd2':(d:Int)≤1999:=hdep _ List.mem_cons_self
  have st:=XN (d:=d) hl hv (Or.inl ⟨hg.2.2.1,rfl⟩) (by show w.2.1≤w.2.2.1;omega) hOE rfl hdO (by omega) (fun _=>⟨hd,pv,p,pn,e,hpv,hpd,hp2,hO,hp,hpt,hpr,hE,he',by show w.2.2.1≤_;omega⟩) k
  rw [if_pos hi] at st;have hlO:(O.take d ++ [(i:Int)]).length=d+1:=by rw [List.length_append,List.length_take];show min d O.length+1=_;omega
  have hlE:((E.set (d-1) w.2.2.1).take d ++ [w.2.1]).length=d+1:=by rw [List.length_append,List.length_take,List.length_set];show min d E.length+1=_;omega
  have gO:(O.take d ++ [(i:Int)])[d-1]? = some (p:Int):=by
   rw [List.getElem?_append_left (by rw [List.length_take];omega),List.getElem?_take,if_pos (by omega)];exact hO
  have gE:((E.set (d-1) w.2.2.1).take d ++ [w.2.1])[d-1]? = some w.2.2.1:=by
   rw [List.getElem?_append_left (by rw [List.length_take,List.length_set];omega),List.getElem?_take,if_pos (by omega),List.getElem?_set,if_pos rfl,if_pos (by omega)]
  obtain ⟨O',E',e',pv',q1,q2,q3,q4,q5,q6,q7,q8,q9,q10⟩:=Zw hl k r (d:=d) (i:=i+1) (p:=p) (pos:=w.2.2.1) (O:=O.take d ++ [(i:Int)]) (E:=(E.set (d-1) w.2.2.1).take d ++ [w.2.1]) (pn:=pn) (pv:=((d:Int), -1,w.1,w.2.1,w.2.2.1,())) (e:=w.2.2.1)
   hs.tail hg.2.2.2 hd (by omega) (by rw [hlO,hlE]) (by omega) gO hp hpt hpr hpe' gE hgr.1 hv (by show (d:Int)≤(d:Int)+1;omega) (by show (d:Int)≤2000;omega) (fun v hv=>hdep v (List.mem_cons_of_mem _ hv))
  have hlen:(flat (d:Int) pos (.word w r)).length=1+(flat (d:Int) w.2.2.1 r).length:=Nat.add_comm _ _
  refine ⟨O',E',e',pv',?_,q2,q3,?_,?_,q6,q7,?_,q9,q10⟩
  ·rw [hlen];have:=(Rch.one st).trans q1
   rw [show i+(1+(flat (d:Int) w.2.2.1 r).length)=i+1+(flat (d:Int) w.2.2.1 r).length by omega];exact this
  ·rw [q4,List.take_append_of_le_length (by rw [List.length_take];omega),List.take_take,Nat.min_self]
  ·rw [q5,List.take_append_of_le_length (by rw [List.length_take,List.length_set];omega),List.take_take,show min (d-1) d=d-1 by omega,List.take_set_of_le (Nat.le_refl _)]
  ·rw [hlen,show i+(1+(flat (d:Int) w.2.2.1 r).length)-1=i+1+(flat (d:Int) w.2.2.1 r).length-1 by omega];exact q8
 | .name q ks r,d,i,p,pos,O,E,pn,pv,e,hs,hg,hd,hi,hOE,hdO,hO,hp,hpt,hpr,hpe,hE,he,hpv,hpd,hp2,hdep=>by
  have hv:=hs.head
  have hgk:=Gd.le hg.1
  have hgr:=Gd.le hg.2
  have hpe':zt (zt pos ks) r≤pn.2.2.2.2.1:=hpe
  have he':e≤zH pos ks:=he
  have hd2':(d:Int)≤1999:=hdep _ List.mem_cons_self
  have st:=XN (d:=d) hl hv (Or.inr ⟨rfl,Int.natCast_nonneg q⟩) (by show zH pos ks≤zt pos ks;omega) hOE rfl hdO (by omega) (fun _=>⟨hd,pv,p,pn,e,hpv,hpd,hp2,hO,hp,hpt,hpr,hE,he',by show zt pos ks≤_;omega⟩) k
  rw [if_pos hi] at st;have hlO:(O.take d ++ [(i:Int)]).length=d+1:=by rw [List.length_append,List.length_take];show min d O.length+1=_;omega
  have hlE:((E.set (d-1) (zt pos ks)).take d ++ [zH pos ks]).length=d+1:=by rw [List.length_append,List.length_take,List.length_set];show min d E.length+1=_;omega
  have hs1:Seg l (i+1) (flat ((d:Int)+1) pos ks):=hs.tail.left
  have hs2:Seg l (i+1+(flat ((d:Int)+1) pos ks).length) (flat (d:Int) (zt pos ks) r):=hs.tail.right
  have gO:(O.take d ++ [(i:Int)])[d+1-1]? = some (i:Int):=by
   rw [List.getElem?_append_right (by rw [List.length_take];omega),List.length_take,show d+1-1-min d O.length=0 by omega];rfl
  have gE:((E.set (d-1) (zt pos ks)).take d ++ [zH pos ks])[d+1-1]? = some (zH pos ks):=by
   rw [List.getElem?_append_right (by rw [List.length_take,List.length_set];omega),List.length_take,List.length_set,show d+1-1-min d E.length=0 by omega];rfl
  obtain ⟨O1,E1,e1,pv1,q1,q2,q3,q4,q5,q6,q7,q8,q9,q10⟩:=Zw hl k ks (d:=d+1) (i:=i+1) (p:=i) (pos:=pos) (O:=O.take d ++ [(i:Int)]) (E:=(E.set (d-1) (zt pos ks)).take d ++ [zH pos ks]) (pn:=((d:Int),(q:Int), -1,zH pos ks,zt pos ks,())) (pv:=((d:Int),(q:Int), -1,zH pos ks,zt pos ks,())) (e:=zH pos ks)
   hs1 hg.1 (by omega) (by omega) (by rw [hlO,hlE]) (by omega) gO hv rfl (Int.natCast_nonneg q) (Int.le_refl _) gE (Int.le_refl _) hv (by show ((d+1:Nat):Int)≤(d:Int)+1;omega) (by show (d:Int)≤2000;omega) (fun v hv=>hdep v (List.mem_cons_of_mem _ (List.mem_append_left _ hv)))
  have ed:((d+1:Nat):Int)=(d:Int)+1:=by omega
  rw [ed] at q1 q8 q9;have tO:O1.take d=O.take d:=by
   have:=congrArg (List.take d) q4
   rw [List.take_take,List.take_take,show min d (d+1)=d by omega,List.take_append_of_le_length (by rw [List.length_take];omega),List.take_take,Nat.min_self] at this
   exact this
  have tE:E1.take d=(E.set (d-1) (zt pos ks)).take d:=by
   rw [show d+1-1=d by omega] at q5;rw [q5,List.take_append_of_le_length (by rw [List.length_take,List.length_set];omega),List.take_take,Nat.min_self]
  have gO1:O1[d-1]? = some (p:Int):=by
   have:=congrArg (fun l=>l[d-1]?) tO
   rw [List.getElem?_take,List.getElem?_take,if_pos (by omega),if_pos (by omega)] at this;rw [this];exact hO
  have gE1:E1[d-1]? = some (zt pos ks):=by
   have:=congrArg (fun l=>l[d-1]?) tE
   rw [List.getElem?_take,List.getElem?_take,if_pos (by omega),if_pos (by omega)] at this;rw [this,List.getElem?_set,if_pos rfl,if_pos (by omega)]
  obtain ⟨O',E',e',pv',r1,r2,r3,r4,r5,r6,r7,r8,r9,r10⟩:=Zw hl k r (d:=d) (i:=i+1+(flat ((d:Int)+1) pos ks).length) (p:=p) (pos:=zt pos ks) (O:=O1) (E:=E1) (pn:=pn) (pv:=pv1) (e:=zt pos ks)
   hs2 hg.2 hd (by omega) q2 (by omega) gO1 hp hpt hpr hpe' gE1 hgr.1 q8 (by omega) q10 (fun v hv=>hdep v (List.mem_cons_of_mem _ (List.mem_append_right _ hv)))
  have hlen:(flat (d:Int) pos (.name q ks r)).length=1+((flat ((d:Int)+1) pos ks).length+(flat (d:Int) (zt pos ks) r).length):=by
   show (flat ((d:Int)+1) pos ks++flat (d:Int) (zt pos ks) r).length+1=_
   rw [List.length_append];omega
  refine ⟨O',E',e',pv',?_,r2,r3,by rw [r4,tO],?_,r6,r7,?_,r9,r10⟩
  ·rw [hlen];have:=(Rch.one st).trans (q1.trans r1)
   rw [show i+(1+((flat ((d:Int)+1) pos ks).length+(flat (d:Int) (zt pos ks) r).length))=i+1+(flat ((d:Int)+1) pos ks).length+(flat (d:Int) (zt pos ks) r).length by omega];exact this
  ·have:=congrArg (List.take (d-1)) tE
   rw [List.take_take,List.take_take,show min (d-1) d=d-1 by omega,List.take_set_of_le (Nat.le_refl _)] at this;rw [r5,this]
  ·rw [hlen,show i+(1+((flat ((d:Int)+1) pos ks).length+(flat (d:Int) (zt pos ks) r).length))-1=i+1+(flat ((d:Int)+1) pos ks).length+(flat (d:Int) (zt pos ks) r).length-1 by omega];exact r8
theorem qC: ∀ {F:zK} {d pos:Int}, ∀v∈flat d pos F,v.1<d+(flat d pos F).length
 | .nil,_,_,v,hv=>nomatch hv
 | .word w r,d,pos,v,hv=>by
  show v.1<d+(((flat d w.2.2.1 r).length+1:Nat):Int)
  rcases List.mem_cons.1 hv with rfl | hv
  ·show d<_;omega
  ·have:=qC v hv;omega
 | .name q ks r,d,pos,v,hv=>by
  show v.1<d+(((flat (d+1) pos ks++flat d (zt pos ks) r).length+1:Nat):Int)
  rw [List.length_append];rcases List.mem_cons.1 hv with rfl | hv
  ·show d<_;omega
  ·rcases List.mem_append.1 hv with hv | hv
   ·have:=qC v hv;omega
   ·have:=qC v hv;omega
theorem Seg.self (l:List zb):Seg l 0 l:=fun t v e=>by rw [Nat.zero_add];exact e
theorem UX {l:List zb}{q:Nat}{ks:zK}{a:Int}(he:l=flat 0 a (.name q ks .nil))(hg:Gd a ks)(hl:l.length≤1250){k:Nat}(hk:l.length<k):zae k (l,())=some (true,()):=by
 have hroot:l[0]? = some (0,(q:Int), -1,zH a ks,zt a ks,()):=by rw [he];rfl
 have hgk:=Gd.le hg
 have hseg:Seg l 1 (flat 1 a ks):=by
  have h:=Seg.self l
  have h2:Seg l 0 (flat 0 a (.name q ks .nil)):=fun t v e=>h t v (by rw [he];exact e)
  exact h2.tail.left
 have hlen:l.length=1+(flat 1 a ks).length:=by
  rw [he];show (flat (0+1) a ks ++ []).length+1=_
  rw [List.append_nil,Nat.add_comm];rfl
 have hsh: ∀v∈flat ((1:Nat):Int) a ks,v.1≤1999:=fun v hv=>by
  have h1:=qC v hv
  have h2:((flat ((1:Nat):Int) a ks).length:Int)=(flat 1 a ks).length:=rfl
  omega
 have s0:=XN (l:=l) (i:=0) (O:= []) (E:= []) (d:=0) (by omega) hroot (Or.inr ⟨rfl,Int.natCast_nonneg q⟩) (by show zH a ks≤zt a ks;omega) rfl rfl (Nat.le_refl _) (by omega) (fun h=>by omega) k
 obtain ⟨O',E',e',pv',q1,_⟩:=Zw (l:=l) (by omega) k ks (d:=1) (i:=1) (p:=0) (pos:=a) (O:= [0]) (E:= [zH a ks]) (pn:=(0,(q:Int), -1,zH a ks,zt a ks,())) (pv:=(0,(q:Int), -1,zH a ks,zt a ks,())) (e:=zH a ks)
  hseg hg (Nat.le_refl _) (by omega) rfl (Nat.le_refl _) rfl hroot rfl (Int.natCast_nonneg q) (Int.le_refl _) rfl (Int.le_refl _) hroot (by show ((1:Nat):Int)≤0+1;omega) (by show (0:Int)≤2000;omega) hsh
 have hr:=(Rch.one s0).trans q1
 have hfin:Uk k (l,l,(l.length:Int),((1+(flat ((1:Nat):Int) a ks).length:Nat):Int),O',E',())=some (.inr (.inl ())):=by
  have h: ¬(((1+(flat ((1:Nat):Int) a ks).length:Nat):Int)<(l.length:Int)):=by
   have h2:(flat ((1:Nat):Int) a ks).length=(flat 1 a ks).length:=rfl
   omega
  show (bif decide _ then _ else _)=_
  rw [decide_eq_false h];rfl
 have hit:=hr.fin hfin (k:=k) (by
  have h2:(flat ((1:Nat):Int) a ks).length=(flat 1 a ks).length:=rfl
  omega)
 refine Ok.val ?_
 unfold zae;refine Ok.bind (Q:=fun r=>r=(true,())) ?_ ?_
 ·refine Ok.bind (Q:=fun p=>p=(l,false,())) ?_ ?_
  ·refine Ok.ff (by rw [beq_eq_false_iff_ne];omega) (Ok.atV (z:=0) (by omega) hroot (Ok.some rfl))
  ·rintro _ rfl
   refine Ok.ff rfl ?_
   refine Ok.bind (Q:=fun r=>r=(true,())) ?_ ?_
   ·exact Ok.eq hit (Ok.some rfl)
   ·rintro _ rfl
    exact Ok.some rfl
 ·rintro _ rfl
  exact Ok.some rfl
def isD (l:List zb)(e:Int)(t:Nat):Bool:=match l[t]? with
 | some v=>v.1==e
 | none=>false
def yP (l:List zb)(e:Int)(i:Nat):Nat→List Int
 | 0=> []
 | n+1=>yP l e i n++(bif isD l e (i+n) then [((i+n:Nat):Int)] else [])
theorem Z6 (l:List zb)(e:Int)(i:Nat): ∀n,(yP l e i n).length≤n
 | 0=>Nat.le_refl _
 | n+1=>by
  have:=Z6 l e i n
  show (yP l e i n++_).length≤_
  rw [List.length_append]
  cases isD l e (i+n)
  ·show _+0≤_;omega
  ·show _+1≤_;omega
structure Kdn (l:List zb) (p n:Nat) (d:Int):Prop where
 own: ∃v,l[p]? = some v∧v.1=d
 deep: ∀t,t<n→ ∃v,l[p+1+t]? = some v∧d<v.1
 first:0<n→ ∃v,l[p+1]? = some v∧v.1=d+1
 next: ∀v,l[p+1+n]? = some v→v.1≤d
theorem Kdn.len {l:List zb}{p n:Nat}{d:Int}(h:Kdn l p n d):p+1+n≤l.length:=by
 cases n with
 | zero=>
  obtain ⟨v,hv,_⟩:=h.own
  obtain ⟨h1,_⟩:=List.getElem?_eq_some_iff.1 hv
  omega
 | succ n=>
  obtain ⟨v,hv,_⟩:=h.deep n (by omega)
  obtain ⟨h1,_⟩:=List.getElem?_eq_some_iff.1 hv
  omega
theorem zhU {l:List zb}{p n:Nat}{d:Int}(h:Kdn l p n d)(hd:0≤d)(hd2:d≤2000)(hl:l.length≤2000){k:Nat}(hk:l.length<k)(hm:zae k (l,())=some (true,())):zgR k (l,(p:Int),())=some (yP l (d+1) (p+1) n,()):=by
 obtain ⟨vp,hvp,hvd⟩:=h.own
 have hlen:=h.len
 have hwp:w64 ((p:Int)+1)=((p+1:Nat):Int):=by rw [zl (by omega) (by omega)];rfl
 have hwd:w64 (vp.1+1)=d+1:=by rw [hvd,zl (by omega) (by omega)]
 refine Ok.val ?_
 refine Ok.bind (Q:=fun r=>r=(yP l (d+1) (p+1) n,())) ?_ ?_
 ·refine Ok.bind (Q:=fun r=>r=(l,(p:Int),false,())) ?_ ?_
  ·refine Ok.eq hm ?_
   refine Ok.ff rfl (Ok.dec (p:=(p:Int)<0) (fun h=>by omega) (fun _=>Ok.some ?_))
   rw [decide_eq_false (by omega)]
  ·rintro _ rfl
   refine Ok.ff rfl ?_
   refine Ok.bind (Q:=fun r=>r=(yP l (d+1) (p+1) n,())) ?_ ?_
   ·rw [hwp];refine Ok.iter (fun q=> ∃t:Nat,t≤n∧q=(l,(p:Int),((p+1+t:Nat):Int),yP l (d+1) (p+1) t,())) (fun q=>((p+1+n:Int)-q.2.2.1).toNat) ?_ k _ ⟨0,by omega,rfl⟩ (by show ((p+1+n:Int)-((p+1:Nat):Int)).toNat<k;omega)
    rintro _ ⟨t,ht,rfl⟩
    have hw:w64 (((p+1+t:Nat):Int)+1)=((p+1+(t+1):Nat):Int):=by rw [zl (by omega) (by omega)];omega
    refine Ok.bind (Q:=fun q=>q=(l,(p:Int),((p+1+t:Nat):Int),decide (t<n),yP l (d+1) (p+1) t,())) ?_ ?_
    ·refine Ok.dec (p:=((p+1+t:Nat):Int)<(l.length:Int)) (fun hlt=> ?_) (fun hge=>Ok.some ?_)
     ·obtain ⟨v,hv⟩:=zJ (l:=l) (i:=p+1+t) (by omega)
      refine Ok.atV (by omega) hv (Ok.atV (by omega) hvp (Ok.some ?_))
      have e:decide (v.1>vp.1)=decide (t<n):=by
       by_cases ht2:t<n
       ·obtain ⟨v',hv',hd'⟩:=h.deep t ht2
        rw [hv] at hv';rw [←Option.some.inj hv'] at hd';rw [decide_eq_true (show v.1>vp.1 by omega),decide_eq_true ht2]
       ·have e2:t=n:=by omega
        subst e2;have:=h.next v hv
        rw [decide_eq_false (by omega),decide_eq_false (by omega)]
      rw [e]
     ·rw [decide_eq_false (by omega)]
    ·rintro _ rfl
     refine Ok.dec (p:=t<n) (fun htn=> ?_) (fun htn=>Ok.some ?_)
     ·obtain ⟨v,hv⟩:=zJ (l:=l) (i:=p+1+t) (by omega)
      have hol:=Z6 l (d+1) (p+1) t
      refine Ok.atV (by omega) hv (Ok.atV (by omega) hvp ?_)
      refine Ok.bind (Q:=fun q=>q=(l,(p:Int),((p+1+t:Nat):Int),yP l (d+1) (p+1) (t+1),())) ?_ ?_
      ·have hisD:isD l (d+1) (p+1+t)=(v.1==d+1):=by unfold isD;rw [hv]
       rw [hwd,←hisD];refine Ok.cond (fun e=>Ok.room (by show _+1≤_;omega) (by omega) (Ok.some ?_)) (fun e=>Ok.some ?_)
       ·show _=(l,(p:Int),_,yP l (d+1) (p+1) t++(bif isD l (d+1) (p+1+t) then _ else _),())
        rw [e];rfl
       ·show _=(l,(p:Int),_,yP l (d+1) (p+1) t++(bif isD l (d+1) (p+1+t) then _ else _),())
        rw [e];show _=(l,(p:Int),_,yP l (d+1) (p+1) t ++ [],())
        rw [List.append_nil]
      ·rintro _ rfl
       refine Ok.some ⟨⟨t+1,by omega,?_⟩,?_⟩
       ·show (l,(p:Int),w64 (((p+1+t:Nat):Int)+1),_,())=_
        rw [hw]
       ·show ((p+1+n:Int)-w64 (((p+1+t:Nat):Int)+1)).toNat<((p+1+n:Int)-((p+1+t:Nat):Int)).toNat
        rw [hw];omega
     ·rw [show t=n by omega]
   ·rintro _ rfl
    exact Ok.some rfl
 ·rintro _ rfl
  exact Ok.some rfl
def zi:zK→Nat
 | .nil=>0
 | .word _ r=>1+zi r
 | .name _ ks r=>1+(zi ks+zi r)
theorem yC: ∀(F:zK) (d pos:Int),(flat d pos F).length=zi F
 | .nil,_,_=>rfl
 | .word w r,d,pos=>by
  show (flat d w.2.2.1 r).length+1=1+zi r
  rw [yC r];omega
 | .name q ks r,d,pos=>by
  show (flat (d+1) pos ks++flat d (zt pos ks) r).length+1=1+(zi ks+zi r)
  rw [List.length_append,yC ks,yC r];omega
theorem Seg.ks {l:List zb}{i q:Nat}{d pos:Int}{ks r:zK}(h:Seg l i (flat d pos (.name q ks r))):Seg l (i+1) (flat (d+1) pos ks):=h.tail.left
theorem Seg.r {l:List zb}{i q:Nat}{d pos:Int}{ks r:zK}(h:Seg l i (flat d pos (.name q ks r))):Seg l (i+1+zi ks) (flat d (zt pos ks) r):=by
 have:=h.tail.right
 rw [yC] at this;exact this
theorem Qe: ∀ {F:zK} {d pos:Int},Gd pos F→ ∀v∈flat d pos F,pos≤v.2.2.2.1∧v.2.2.2.1≤v.2.2.2.2.1∧v.2.2.2.2.1≤zt pos F
 | .nil,_,_,_,v,hv=>nomatch hv
 | .word w r,d,pos,h,v,hv=>by
  have h1:=h.1
  have h2:=h.2.1
  have hr:=Gd.le h.2.2.2
  show _∧_∧_≤zt w.2.2.1 r
  rcases List.mem_cons.1 hv with rfl | hv
  ·exact ⟨h1,by show w.2.1≤w.2.2.1;omega,by show w.2.2.1≤_;omega⟩
  ·have:=Qe h.2.2.2 v hv;omega
 | .name q ks r,d,pos,h,v,hv=>by
  have hk:=Gd.le h.1
  have hr:=Gd.le h.2
  show _∧_∧_≤zt (zt pos ks) r
  rcases List.mem_cons.1 hv with rfl | hv
  ·exact ⟨hk.1,hk.2,by show zt pos ks≤_;omega⟩
  ·rcases List.mem_append.1 hv with hv | hv
   ·have:=Qe h.1 v hv;omega
   ·have:=Qe h.2 v hv;omega
def qk (at':Int)(v:zb):Bool:=decide (v.2.2.2.1≤at')&&decide (at'<v.2.2.2.2.1)
theorem zhQ (k:Nat)(v:zb)(at':Int):zi1 k (v,at',())=some (qk at' v,()):=by
 refine Ok.val ?_
 refine Ok.bind (Q:=fun r=>r=(qk at' v,())) ?_ ?_
 ·unfold qk;refine Ok.dec (p:=v.2.2.2.1≤at') (fun h=>Ok.some ?_) (fun h=>Ok.some ?_)
  ·rw [decide_eq_true h,Bool.true_and]
  ·rw [decide_eq_false h,Bool.false_and]
 ·rintro _ rfl
  exact Ok.some rfl
def yj (at':Int):zK→Int→Nat→List Int
 | .nil,_,_=> []
 | .word w r,_,i=>if w.2.1≤at'∧at'<w.2.2.1 then [(i:Int)] else yj at' r w.2.2.1 (i+1)
 | .name _ ks r,pos,i=>if zH pos ks≤at'∧at'<zt pos ks then (i:Int)::yj at' ks pos (i+1) else yj at' r (zt pos ks) (i+1+zi ks)
theorem j8 (at':Int): ∀(F:zK) (pos:Int) (i:Nat),(yj at' F pos i).length≤zi F
 | .nil,_,_=>Nat.le_refl _
 | .word w r,pos,i=>by
  show (if w.2.1≤at'∧at'<w.2.2.1 then [(i:Int)] else yj at' r w.2.2.1 (i+1)).length≤1+zi r
  have:=j8 at' r w.2.2.1 (i+1)
  split
  ·show 1≤_;omega
  ·omega
 | .name q ks r,pos,i=>by
  show (if zH pos ks≤at'∧at'<zt pos ks then (i:Int)::yj at' ks pos (i+1) else yj at' r (zt pos ks) (i+1+zi ks)).length≤1+(zi ks+zi r)
  have h1:=j8 at' ks pos (i+1)
  have h2:=j8 at' r (zt pos ks) (i+1+zi ks)
  split
  ·show (yj at' ks pos (i+1)).length+1≤_;omega
  ·omega
theorem Jd {l:List zb}{i:Nat}{v:zb}{out:List Int}{at':Int}(hv:l[i]? = some v)(hl:l.length≤2000)(ho:out.length≤4000)(k:Nat) :
  XC k (at',l,(l.length:Int),(i:Int),out,())=some (.inl (at',l,(l.length:Int),((i+1:Nat):Int),(bif qk at' v&&(v.1==(out.length:Int)) then out ++ [(i:Int)] else out),())):=by
 obtain ⟨hi,_⟩:=List.getElem?_eq_some_iff.1 hv
 have hw:w64 ((i:Int)+1)=((i+1:Nat):Int):=by rw [zl (by omega) (by omega)];rfl
 refine Ok.val ?_
 refine Ok.dec (p:=(i:Int)<(l.length:Int)) (fun _=> ?_) (fun h=>by omega)
 refine Ok.atV (by omega) hv ?_
 refine Ok.bind (Q:=fun p=>p=(at',(i:Int),l,(l.length:Int),(i:Int),(qk at' v&&(v.1==(out.length:Int))),out,())) ?_ ?_
 ·refine Ok.eq (zhQ k v at') ?_
  refine Ok.cond (fun h=>Ok.some ?_) (fun h=>Ok.some ?_)
  ·rw [h,Bool.true_and]
  ·rw [h,Bool.false_and]
 ·rintro _ rfl
  refine Ok.bind (Q:=fun p=>p=(at',l,(l.length:Int),(i:Int),(bif qk at' v&&(v.1==(out.length:Int)) then out ++ [(i:Int)] else out),())) ?_ ?_
  ·refine Ok.cond (fun h=>Ok.room (by show _+1≤_;omega) (by omega) (Ok.some ?_)) (fun h=>Ok.some ?_)
   ·rw [h];rfl
   ·rw [h];rfl
  ·rintro _ rfl
   refine Ok.some ?_
   show Sum.inl (at',l,(l.length:Int),w64 ((i:Int)+1),_,())=_
   rw [hw]
theorem Yt {l:List zb}{out:List Int}{at':Int}(hl:l.length≤2000)(ho:out.length≤4000)(k:Nat): ∀(m:List zb) (i:Nat),Seg l i m→(∀v∈m,(qk at' v&&(v.1==(out.length:Int)))=false) →
  Rch (XC k) m.length (at',l,(l.length:Int),(i:Int),out,()) (at',l,(l.length:Int),((i+m.length:Nat):Int),out,())
 | [],_,_,_=>rfl
 | v::m,i,hs,hno=>by
  have st:=Jd (at':=at') (out:=out) hs.head hl ho k
  rw [hno v List.mem_cons_self] at st;have:=Yt hl ho k m (i+1) hs.tail fun u hu=>hno u (List.mem_cons_of_mem _ hu)
  rw [show i+1+m.length=i+(m.length+1) by omega] at this;exact ⟨_,st,this⟩
theorem Qx {at':Int}{F:zK}{d pos:Int}(h:Gd pos F)(ha:at'<pos): ∀v∈flat d pos F,qk at' v=false:=fun v hv=>by
 have:=Qe h v hv
 unfold qk;rw [decide_eq_false (by omega),Bool.false_and]
theorem jL {l:List zb}{at':Int}(hl:l.length≤2000)(k:Nat): ∀(F:zK) {d i:Nat} {pos:Int} {out:List Int},Seg l i (flat (d:Int) pos F)→Gd pos F→out.length=d→d+zi F≤4000 →
  Rch (XC k) (zi F) (at',l,(l.length:Int),(i:Int),out,()) (at',l,(l.length:Int),((i+zi F:Nat):Int),out++yj at' F pos i,())
 | .nil,d,i,pos,out,_,_,_,_=>by
  show (_,_,_,_,_)=(_,_,_,_,out ++ [],())
  rw [List.append_nil];rfl
 | .word w r,d,i,pos,out,hs,hg,ho,hd=>by
  have hd':d+(1+zi r)≤4000:=hd
  have hv:=hs.head
  have st:=Jd (at':=at') (out:=out) hv hl (by omega) k
  have e1:(((d:Int), -1,w.1,w.2.1,w.2.2.1,()):zb).1==(out.length:Int):=by
   show ((d:Int)==(out.length:Int))=true
   rw [ho,beq_self_eq_true]
  rw [e1,Bool.and_true] at st;have en:i+1+zi r=i+(1+zi r):=by omega
  by_cases h:w.2.1≤at'∧at'<w.2.2.1
  ·have e2:qk at' ((d:Int), -1,w.1,w.2.1,w.2.2.1,())=true:=by
    show (decide (w.2.1≤at')&&decide (at'<w.2.2.1))=true
    rw [decide_eq_true h.1,decide_eq_true h.2];rfl
   rw [e2] at st;have hsk:=Yt (at':=at') (out:=out ++ [(i:Int)]) hl (by rw [List.length_append];show out.length+1≤_;omega) k (flat (d:Int) w.2.2.1 r) (i+1) hs.tail fun v hv=>by rw [Qx hg.2.2.2 h.2 v hv,Bool.false_and]
   rw [yC] at hsk;have:=(Rch.one st).trans hsk
   rw [en] at this;show Rch _ (1+zi r) _ (at',l,(l.length:Int),_,out++(if w.2.1≤at'∧at'<w.2.2.1 then [(i:Int)] else _),())
   rw [if_pos h];exact this
  ·have e2:qk at' ((d:Int), -1,w.1,w.2.1,w.2.2.1,())=false:=by
    show (decide (w.2.1≤at')&&decide (at'<w.2.2.1))=false
    rw [Bool.and_eq_false_iff,decide_eq_false_iff_not,decide_eq_false_iff_not];omega
   rw [e2] at st;have ih:=jL (at':=at') hl k r (i:=i+1) hs.tail hg.2.2.2 ho (by omega)
   have:=(Rch.one st).trans ih
   rw [en] at this;show Rch _ (1+zi r) _ (at',l,(l.length:Int),_,out++(if w.2.1≤at'∧at'<w.2.2.1 then [(i:Int)] else _),())
   rw [if_neg h];exact this
 | .name q ks r,d,i,pos,out,hs,hg,ho,hd=>by
  have hd':d+(1+(zi ks+zi r))≤4000:=hd
  have hv:=hs.head
  have st:=Jd (at':=at') (out:=out) hv hl (by omega) k
  have e1:(((d:Int),(q:Int), -1,zH pos ks,zt pos ks,()):zb).1==(out.length:Int):=by
   show ((d:Int)==(out.length:Int))=true
   rw [ho,beq_self_eq_true]
  rw [e1,Bool.and_true] at st;have en:i+1+zi ks+zi r=i+(1+(zi ks+zi r)):=by omega
  have e0:((d+1:Nat):Int)=(d:Int)+1:=by omega
  by_cases h:zH pos ks≤at'∧at'<zt pos ks
  ·have e2:qk at' ((d:Int),(q:Int), -1,zH pos ks,zt pos ks,())=true:=by
    show (decide (zH pos ks≤at')&&decide (at'<zt pos ks))=true
    rw [decide_eq_true h.1,decide_eq_true h.2];rfl
   rw [e2] at st;have hsk1:Seg l (i+1) (flat ((d+1:Nat):Int) pos ks):=by rw [e0];exact hs.ks
   have ih:=jL (at':=at') hl k ks (d:=d+1) (i:=i+1) (out:=out ++ [(i:Int)]) hsk1 hg.1 (by rw [List.length_append,ho];rfl) (by omega)
   have hpk:=j8 at' ks pos (i+1)
   have hlo:(out ++ [(i:Int)]++yj at' ks pos (i+1)).length≤4000:=by
    rw [List.length_append,List.length_append];show out.length+1+_≤_;omega
   have hsk:=Yt (at':=at') (out:=out ++ [(i:Int)]++yj at' ks pos (i+1)) hl hlo k (flat (d:Int) (zt pos ks) r) (i+1+zi ks) hs.r fun v hv=>by rw [Qx hg.2 h.2 v hv,Bool.false_and]
   rw [yC] at hsk;have:=(Rch.one st).trans (ih.trans hsk)
   rw [en] at this;show Rch _ (1+(zi ks+zi r)) _ (at',l,(l.length:Int),_,out++(if zH pos ks≤at'∧at'<zt pos ks then (i:Int)::yj at' ks pos (i+1) else _),())
   rw [if_pos h];rw [List.append_assoc] at this;exact this
  ·have e2:qk at' ((d:Int),(q:Int), -1,zH pos ks,zt pos ks,())=false:=by
    show (decide (zH pos ks≤at')&&decide (at'<zt pos ks))=false
    rw [Bool.and_eq_false_iff,decide_eq_false_iff_not,decide_eq_false_iff_not];omega
   rw [e2] at st;have hsk:=Yt (at':=at') (out:=out) hl (by omega) k (flat ((d:Int)+1) pos ks) (i+1) hs.ks fun v hv=>by
    have:=yX (Int.le_refl ((d:Int)+1)) v hv
    rw [beq_eq_false_iff_ne.2 (by omega),Bool.and_false]
   rw [yC] at hsk;have ih:=jL (at':=at') hl k r (i:=i+1+zi ks) (out:=out) hs.r hg.2 ho (by omega)
   have:=(Rch.one st).trans (hsk.trans ih)
   rw [en] at this;show Rch _ (1+(zi ks+zi r)) _ (at',l,(l.length:Int),_,out++(if zH pos ks≤at'∧at'<zt pos ks then _ else yj at' r (zt pos ks) (i+1+zi ks)),())
   rw [if_neg h];exact this
theorem ziv {l:List zb}{F:zK}{a:Int}(he:l=flat 0 a F):Seg l 0 (flat ((0:Nat):Int) a F):=fun t v e=>Seg.self l t v (by rw [he];exact e)
theorem zhT {l:List zb}{q:Nat}{ks:zK}{a:Int}(he:l=flat 0 a (.name q ks .nil))(hg:Gd a ks)(hl:l.length≤1250){k:Nat}(hk:l.length<k)(at':Int):zgP k (l,at',())=some (yj at' (.name q ks .nil) a 0,()):=by
 have hsz:l.length=zi (.name q ks .nil):=by rw [he,yC]
 have hp:=jL (at':=at') (l:=l) (by omega) k (.name q ks .nil) (d:=0) (i:=0) (out:= []) (ziv he) ⟨hg,trivial⟩ rfl (by omega)
 rw [Nat.zero_add,←hsz] at hp;have hfin:XC k (at',l,(l.length:Int),(l.length:Int),[]++yj at' (.name q ks .nil) a 0,())=some (.inr (yj at' (.name q ks .nil) a 0,())):=by
  show (bif decide _ then _ else _)=_
  rw [decide_eq_false (by omega)];rfl
 refine Ok.val ?_
 refine Ok.bind (Q:=fun r=>r=(yj at' (.name q ks .nil) a 0,())) ?_ ?_
 ·refine Ok.eq (UX he hg hl hk) ?_
  refine Ok.ff rfl ?_
  exact Ok.eq (hp.fin hfin hk) (Ok.some rfl)
 ·rintro _ rfl
  exact Ok.some rfl
theorem zaJ {l:List zb}{i:Nat}{d pos:Int}{w:za}{r:zK}(hs:Seg l i (flat d pos (.word w r)))(hn: ∀v,l[i+(1+zi r)]? = some v→v.1≤d):Kdn l i 0 d:=by
 refine ⟨⟨_,hs.head,rfl⟩,fun t ht=>by omega,fun h=>by omega,fun v hv=> ?_⟩
 cases r with
 | nil=>exact hn v hv
 | word w' r'=>
  have:=hs.tail.head
  rw [Nat.add_zero,this] at hv;rw [←Option.some.inj hv];exact Int.le_refl _
 | name q k' r'=>
  have:=hs.tail.head
  rw [Nat.add_zero,this] at hv;rw [←Option.some.inj hv];exact Int.le_refl _
theorem Qv {l:List zb}{i q:Nat}{d pos:Int}{ks r:zK}(hs:Seg l i (flat d pos (.name q ks r)))(hn: ∀v,l[i+(1+(zi ks+zi r))]? = some v→v.1≤d):Kdn l i (zi ks) d:=by
 refine ⟨⟨_,hs.head,rfl⟩,fun t ht=> ?_,fun h=> ?_,fun v hv=> ?_⟩
 ·obtain ⟨v,hv⟩:=zJ (l:=flat (d+1) pos ks) (i:=t) (by rw [yC];exact ht)
  have:=yX (Int.le_refl (d+1)) v (List.mem_of_getElem? hv)
  exact ⟨v,hs.ks t v hv,by omega⟩
 ·cases ks with
  | nil=>exact absurd h (by decide)
  | word w' r'=>exact ⟨_,hs.ks.head,rfl⟩
  | name q k' r'=>exact ⟨_,hs.ks.head,rfl⟩
 ·cases r with
  | nil=>exact hn v (by rw [show i+(1+(zi ks+zi zK.nil))=i+1+zi ks by show i+(1+(zi ks+0))=_;omega];exact hv)
  | word w' r'=>
   rw [hs.r.head] at hv;rw [←Option.some.inj hv];exact Int.le_refl _
  | name q k' r'=>
   rw [hs.r.head] at hv;rw [←Option.some.inj hv];exact Int.le_refl _
def Low (l:List zb)(i:Nat)(d:Int):Prop:= ∀v,l[i]? = some v→v.1≤d
theorem zbL {l:List zb}{i q:Nat}{d pos:Int}{ks r:zK}(hs:Seg l i (flat d pos (.name q ks r)))(hn:Low l (i+(1+(zi ks+zi r))) d):Low l (i+1+zi ks) (d+1):=fun v hv=>by
 have:=(Qv hs hn).next v hv
 omega
def hb (l:List zb)(at':Int)(t:Nat):Bool:=match l[t]? with
 | some v=>qk at' v
 | none=>false
theorem by8 {n:Int}(h:inK .u8 n):0≤n∧n<256:=by
 have h1:(0:Int)≤n:=h.1
 have h2:n≤255:=h.2
 omega
theorem zpi {l:List zb}{q:Nat}{ks:zK}{a:Int}(he:l=flat 0 a (.name q ks .nil)):Low l (0+zi (.name q ks .nil)) 0:=fun v hv=>by
 rw [List.getElem?_eq_none (by rw [he,yC];omega)] at hv
 exact nomatch hv
def Wat:zK→Int→Nat→Nat→za→Prop
 | .nil,_,_,_,_=>False
 | .word w' r,_,i,j,w=>(j=i∧w=w')∨Wat r w'.2.2.1 (i+1) j w
 | .name _ ks r,pos,i,j,w=>Wat ks pos (i+1) j w∨Wat r (zt pos ks) (i+1+zi ks) j w
theorem zqe: ∀ {F:zK} {pos:Int} {i j:Nat} {w:za},Gd pos F→Wat F pos i j w→zH pos F≤w.2.1∧w.2.1<w.2.2.1∧w.2.2.1≤zt pos F
 | .nil,_,_,_,_,_,h=>h.elim
 | .word w' r,pos,i,j,w,hg,h=>by
  have h1:=hg.2.1
  have hr:=Gd.le hg.2.2.2
  show w'.2.1≤_∧_∧_≤zt w'.2.2.1 r
  rcases h with ⟨_,rfl⟩ | h
  ·omega
  ·have:=zqe hg.2.2.2 h;omega
 | .name q ks r,pos,i,j,w,hg,h=>by
  have hk:=Gd.le hg.1
  have hr:=Gd.le hg.2
  show zH pos ks≤_∧_∧_≤zt (zt pos ks) r
  rcases h with h | h
  ·have:=zqe hg.1 h;omega
  ·have:=zqe hg.2 h;omega
theorem zqd: ∀ {F:zK} {pos:Int} {i j:Nat} {w:za},Gd pos F→Wat F pos i j w→ ∃o:List Int,yj w.2.1 F pos i=o ++ [(j:Int)]
 | .nil,_,_,_,_,_,h=>h.elim
 | .word w' r,pos,i,j,w,hg,h=>by
  have h1:=hg.2.1
  have hr:=Gd.le hg.2.2.2
  show ∃o:List Int,(if w'.2.1≤w.2.1∧w.2.1<w'.2.2.1 then [(i:Int)] else yj w.2.1 r w'.2.2.1 (i+1))=o ++ [(j:Int)]
  rcases h with ⟨rfl,rfl⟩ | h
  ·rw [if_pos (by omega)];exact ⟨[],rfl⟩
  ·have:=zqe hg.2.2.2 h
   rw [if_neg (by omega)];exact zqd hg.2.2.2 h
 | .name q ks r,pos,i,j,w,hg,h=>by
  have hk:=Gd.le hg.1
  have hr:=Gd.le hg.2
  show ∃o:List Int,(if zH pos ks≤w.2.1∧w.2.1<zt pos ks then (i:Int)::yj w.2.1 ks pos (i+1) else yj w.2.1 r (zt pos ks) (i+1+zi ks))=o ++ [(j:Int)]
  rcases h with h | h
  ·have:=zqe hg.1 h
   rw [if_pos (by omega)];obtain ⟨o,ho⟩:=zqd hg.1 h
   exact ⟨(i:Int)::o,by rw [ho];rfl⟩
  ·have:=zqe hg.2 h
   rw [if_neg (by omega)];exact zqd hg.2 h
structure Lvs (l:List zb) (T:zK) (a:Int):Prop where
 len:l.length≤1250
 may:zae K0 (l,())=some (true,())
 path: ∀at', ∃P:List Int,P.length≤2000∧P=yj at' T a 0∧zgP K0 (l,at',())=some (P,())
theorem zqh {l:List zb}{T:zK}{a:Int}(h:Lvs l T a){n cur:Int}{ss:List zx}{i d:Nat}{w:za}(hv:l[i]? = some ((d:Int), -1,w.1,w.2.1,w.2.2.1,()))(hw0:0≤w.1)(hd:d≤2000)(hk:Kdn l i 0 (d:Int))(hc:cur≤w.2.1)(hlt:w.2.1<w.2.2.1)(hp: ∃o:List Int,yj w.2.1 T a 0=o ++ [(i:Int)]) :
  zqf K0 (n,l,cur,(i:Int),ss,())=some (.inl (n,l,w.2.2.1,((i+1:Nat):Int),ss,())):=by
 obtain ⟨hi,_⟩:=List.getElem?_eq_some_iff.1 hv
 have hl:=h.len
 have hw:w64 ((i:Int)+1)=((i+1:Nat):Int):=by rw [zl (by omega) (by omega)];rfl
 obtain ⟨P,hP,hPe,hG⟩:=h.path w.2.1
 obtain ⟨o,ho⟩:=hp
 rw [ho] at hPe;have hPl:P.length=o.length+1:=by rw [hPe,List.length_append];rfl
 have hwP:w64 ((P.length:Int)-1)=(o.length:Int):=by rw [zl (by omega) (by omega)];omega
 have hPo:P[((o.length:Int)).toNat]? = some (i:Int):=by
  rw [hPe];show (o ++ [(i:Int)])[o.length]? = _
  rw [List.getElem?_append_right (Nat.le_refl _),Nat.sub_self];rfl
 refine Ok.val ?_
 refine Ok.dec (p:=(i:Int)<(l.length:Int)) (fun _=> ?_) (fun h=>by omega)
 refine Ok.bind (Q:=fun r=>r=Sum.inl (n,l,w.2.2.1,(i:Int),ss,())) ?_ ?_
 ·refine Ok.atV (by omega) hv ?_
  refine Ok.dec (p:=w.1<0) (fun h=>by omega) (fun _=> ?_)
  refine Ok.bind (Q:=fun r=>r=Sum.inr (n,l,w.2.2.1,(i:Int),ss,())) ?_ ?_
  ·refine Ok.bind (Q:=fun r=>r=(n,l,(i:Int),false,ss,())) ?_ ?_
   ·refine Ok.atV (by omega) hv ?_
    refine Ok.dec (p:=w.2.1<cur) (fun h=>by omega) (fun _=>Ok.atV (by omega) hv (Ok.atV (by omega) hv ?_))
    refine Ok.dec (p:=w.2.2.1≤w.2.1) (fun h=>by omega) (fun _=> ?_)
    exact Ok.eq (zhU hk (by omega) (by omega) (by omega) (by show _<200000;omega) h.may) (Ok.some rfl)
   ·rintro _ rfl
    refine Ok.ff rfl (Ok.atV (by omega) hv (Ok.atV (by omega) hv ?_))
    refine Ok.eq hG ?_
    refine Ok.bind (Q:=fun r=>r=(n,l,w.2.2.1,(i:Int),false,ss,())) ?_ ?_
    ·refine Ok.ff (by rw [beq_eq_false_iff_ne];omega) ?_
     rw [hwP];refine Ok.atV (by omega) hPo (Ok.getV hPo (Ok.some ?_))
     have e:((i:Int) != (i:Int))=false:=by simp
     rw [e]
    ·rintro _ rfl
     exact Ok.ff rfl (Ok.some rfl)
  ·rintro _ rfl
   exact Ok.some rfl
 ·rintro _ rfl
  refine Ok.some ?_
  show Sum.inl (n,l,w.2.2.1,w64 ((i:Int)+1),ss,())=_
  rw [hw]
theorem zqg {l:List zb}{n cur:Int}{ss:List zx}{i:Nat}{v:zb}(hl:l.length≤1250)(hv:l[i]? = some v)(hv0:v.2.2.1<0) :
  zqf K0 (n,l,cur,(i:Int),ss,())=some (.inl (n,l,cur,((i+1:Nat):Int),ss,())):=by
 obtain ⟨hi,_⟩:=List.getElem?_eq_some_iff.1 hv
 have hw:w64 ((i:Int)+1)=((i+1:Nat):Int):=by rw [zl (by omega) (by omega)];rfl
 refine Ok.val ?_
 refine Ok.dec (p:=(i:Int)<(l.length:Int)) (fun _=> ?_) (fun h=>by omega)
 refine Ok.bind (Q:=fun r=>r=Sum.inl (n,l,cur,(i:Int),ss,())) ?_ ?_
 ·refine Ok.atV (by omega) hv ?_
  exact Ok.tt (decide_eq_true hv0) (Ok.some rfl)
 ·rintro _ rfl
  refine Ok.some ?_
  show Sum.inl (n,l,cur,w64 ((i:Int)+1),ss,())=_
  rw [hw]
theorem leaves {l:List zb}{T:zK}{a:Int}(h:Lvs l T a){n:Int}{ss:List zx}: ∀(F:zK) {d:Nat} {pos:Int} {i:Nat},Seg l i (flat (d:Int) pos F)→Gd pos F→Low l (i+zi F) (d:Int)→d+zi F≤2000→(∀j w,Wat F pos i j w→ ∃o:List Int,yj w.2.1 T a 0=o ++ [(j:Int)]) →
  Rch (zqf K0) (zi F) (n,l,pos,(i:Int),ss,()) (n,l,zt pos F,((i+zi F:Nat):Int),ss,())
 | .nil,_,_,_,_,_,_,_,_=>rfl
 | .word w r,d,pos,i,hs,hg,hn,hd,hW=>by
  have hd':d+(1+zi r)≤2000:=hd
  have st:=zqh h (n:=n) (cur:=pos) (ss:=ss) (i:=i) (d:=d) (w:=w) hs.head hg.2.2.1 (by omega) (zaJ hs hn) hg.1 hg.2.1 (hW i w (Or.inl ⟨rfl,rfl⟩))
  have ih:=leaves h (n:=n) (ss:=ss) r (i:=i+1) hs.tail hg.2.2.2 (by rw [show i+1+zi r=i+(1+zi r) by omega];exact hn) (by omega) (fun j w' hw=>hW j w' (Or.inr hw))
  have:=(Rch.one st).trans ih
  rw [show i+1+zi r=i+(1+zi r) by omega] at this;exact this
 | .name q ks r,d,pos,i,hs,hg,hn,hd,hW=>by
  have hd':d+(1+(zi ks+zi r))≤2000:=hd
  have st:=zqg (n:=n) (cur:=pos) (ss:=ss) h.len hs.head (by show (-1:Int)<0;omega)
  have e0:((d+1:Nat):Int)=(d:Int)+1:=by omega
  have ih1:=leaves h (n:=n) (ss:=ss) ks (d:=d+1) (pos:=pos) (i:=i+1) (by rw [e0];exact hs.ks) hg.1 (by rw [e0];exact zbL hs hn) (by omega) (fun j w' hw=>hW j w' (Or.inl hw))
  have ih2:=leaves h (n:=n) (ss:=ss) r (i:=i+1+zi ks) hs.r hg.2 (by rw [show i+1+zi ks+zi r=i+(1+(zi ks+zi r)) by omega];exact hn) (by omega) (fun j w' hw=>hW j w' (Or.inr hw))
  have:=(Rch.one st).trans (ih1.trans ih2)
  rw [show i+1+zi ks+zi r=i+(1+(zi ks+zi r)) by omega] at this;exact this
theorem zqj {a:Int}{tx:List Int}(ha:inK .u8 a)(htx: ∀v∈tx,inK .u8 v):zqi K0 (a,tx,())=some (true,()):=by
 have ha:=by8 ha
 refine Ok.val ?_
 unfold zqi;refine Ok.bind (Q:=fun r=>r=(true,())) ?_ ?_
 ·refine Ok.eq zhX ?_
  refine Ok.ff rfl ?_
  refine Ok.bind (Q:=fun r=>r=(true,())) ?_ ?_
  ·refine Ok.dec (p:=(tx.length:Int)>8) (fun _=>Ok.some rfl) (fun hl=> ?_)
   refine Ok.bind (zhW ha.1 ha.2 (fun v hv=>by8 (htx v hv)) (by omega)) ?_
   rintro _ ⟨g,ss,hsl,hss,rfl⟩
   refine Ok.bind (Q:=fun r=>r=(true,())) ?_ ?_
   ·refine Ok.bind (Q:=fun r=>r=Sum.inl ()) ?_ ?_
    ·refine Ok.iter (fun p=> ∃i:Nat,i≤ss.length∧p=((i:Int),ss,())) (fun p=>((ss.length:Int)-p.1).toNat) ?_ K0 _ ⟨0,by omega,rfl⟩ (by show ((ss.length:Int)-0).toNat<200000;omega)
     rintro _ ⟨i,hi,rfl⟩
     have hw:w64 ((i:Int)+1)=((i+1:Nat):Int):=by rw [zl (by omega) (by omega)];rfl
     refine Ok.dec (p:=(i:Int)<(ss.length:Int)) (fun hlt=> ?_) (fun hge=>Ok.some rfl)
     obtain ⟨s,hs1⟩:=zJ (l:=ss) (i:=i) (by omega)
     obtain ⟨q,ks,hx,hg,hfr,hen,h0,hab,hbb,hxl⟩:=hss s (List.mem_of_getElem? hs1)
     refine Ok.atV (by omega) hs1 (Ok.getV hs1 (Ok.atV (by omega) hs1 (Ok.getV hs1 ?_)))
     generalize s.2.2.1=x at hx hxl ⊢
     have hk:x.length<K0:=by show _<200000;omega
     have hszx:x.length=zi (.name q ks .nil):=by rw [hx,yC]
     have hgT:Gd s.1 (.name q ks .nil):=⟨hg,trivial⟩
     have hLv:Lvs x (.name q ks .nil) s.1:=⟨hxl,UX hx hg hxl hk,fun at'=>⟨_,by have:=j8 at' (.name q ks .nil) s.1 0;omega,rfl,zhT hx hg hxl hk at'⟩⟩
     have hlv:=leaves hLv (n:=(i:Int)) (ss:=ss) (.name q ks .nil) (d:=0) (pos:=s.1) (i:=0) (ziv hx) hgT (zpi hx) (by omega) (fun j w hw=>zqd hgT hw)
     have hen':zt s.1 (.name q ks .nil)=s.2.1:=hen
     rw [Nat.zero_add,←hszx,hen'] at hlv;have hfin:zqf K0 ((i:Int),x,s.2.1,(x.length:Int),ss,())=some (.inr (.inl ((i:Int),s.2.1,ss,()))):=by
      show (bif decide _ then _ else _)=_
      rw [decide_eq_false (by omega)];rfl
     refine Ok.bind (Q:=fun r=>r=Sum.inr ((i:Int),ss,())) ?_ ?_
     ·refine Ok.eq (hlv.fin hfin hk) ?_
      refine Ok.atV (by omega) hs1 (Ok.getV hs1 ?_)
      exact Ok.ff (by simp) (Ok.some rfl)
     ·rintro _ rfl
      refine Ok.some ⟨⟨i+1,by omega,?_⟩,?_⟩
      ·show (w64 ((i:Int)+1),ss,())=_
       rw [hw]
      ·show ((ss.length:Int)-w64 ((i:Int)+1)).toNat<((ss.length:Int)-(i:Int)).toNat
       rw [hw];omega
    ·rintro _ rfl
     exact Ok.some rfl
   ·rintro _ rfl
    exact Ok.some rfl
  ·rintro _ rfl
   exact Ok.some rfl
 ·rintro _ rfl
  exact Ok.some rfl
end Go.Pi
