import Derived.Test.YtbalfefjfgheoaaGreatWaK0
import Derived.Test.YtbalfefjfgheoaaGreatWaK1
import Derived.Test.YtbalfefjfgheoaaGreatWaK2
import Derived.Test.YtbalfefjfgheoaaGreatWaK3
import Derived.Test.YtbalfefjfgheoaaGreatWaK4
import Derived.Test.YtbalfefjfgheoaaGreatLO
import Derived.Test.YtbalfefjfgheoaaGreatKB
import Derived.Test.YtbalfefjfgheoaaGreatLP
set_option linter.all false
namespace Go.Pi
set_option linter.unusedVariables false
set_option maxRecDepth 100000
theorem G20_of {t:List UInt8} {g:GrT} (hP:G24 K0 (t,())=some (g,0,0,()))
  (hD:dfaOf g=true) (hR:lrOf g=true) (hL:G27 K0 (g,())=some (0,0,())) :
  G20 K0 (t,())=some (g,0,0,()):=by
 show Option.bind (G24 K0 (t,())) _=_
 rw [hP]
 show Option.bind (G25 K0 (g.1,())) _=_
 unfold dfaOf at hD
 unfold lrOf at hR
 match h1:G25 K0 (g.1,()),hD with
 | some (d,e,u),hD=>
  match h2:G26 K0 (g,()),hR with
  | some (tb,e2,u2),hR=>
   simp only [Bool.and_eq_true,beq_iff_eq] at hD hR
   obtain ⟨rfl, -⟩:=hD
   subst hR
   show Option.bind (G27 K0 (g,())) _=_
   rw [hL]
   rfl
def txs:List (List UInt8):= [tx0,tx1,tx2,tx3,tx4]
def grs:List GrT:= [gr0,gr1,gr2,gr3,gr4]
theorem G28_K0:G28 K0 ()=some (txs,()):=by kernel_rfl
theorem G21_K0 (a:Nat) (h:a<256): ∃t∈txs,G21 K0 ((a:Int),())=some (t,()):=by
 have hw:w64 (a:Int)=(a:Int):=w64_ok (by omega) (by omega)
 have hm:Int.tmod (a:Int) 5=((a % 5:Nat):Int):=by
  rw [Int.tmod_eq_emod_of_nonneg (by omega)];omega
 have e:G21 K0 ((a:Int),())=nz (5:Int) ((at? txs (Int.tmod (w64 (a:Int)) 5)).bind fun v1=>
   (List.get?Internal txs (Int.toNat (Int.tmod (w64 (a:Int)) 5))).bind fun v2=>some (v2,())):=by
  have e0:G21 K0 ((a:Int),())=(G28 K0 ()).bind fun x=>nz (x.1.length:Int) ((at? x.1 (Int.tmod (w64 (a:Int)) (x.1.length:Int))).bind fun v1=>
   (List.get?Internal x.1 (Int.toNat (Int.tmod (w64 (a:Int)) (x.1.length:Int)))).bind fun v2=>some (v2,())):=rfl
  rw [e0,G28_K0]
  rfl
 rw [e,hw,hm]
 have h5:a % 5<5:=Nat.mod_lt _ (by omega)
 generalize a % 5=i at h5
 match i,h5 with
 | 0,_=>exact ⟨tx0,by simp [txs],rfl⟩
 | 1,_=>exact ⟨tx1,by simp [txs],rfl⟩
 | 2,_=>exact ⟨tx2,by simp [txs],rfl⟩
 | 3,_=>exact ⟨tx3,by simp [txs],rfl⟩
 | 4,_=>exact ⟨tx4,by simp [txs],rfl⟩
structure Given (g:GrT):Prop where
 dfa:dfaOf g=true
 lr:lrOf g=true
 chk:chkG g=true
theorem G12_K0 (a:Nat) (h:a<256): ∃g,g∈grs∧Given g∧G12 K0 ((a:Int),())=some (g,()):=by
 obtain ⟨t,ht,h1⟩:=G21_K0 a h
 have key: ∃g,g∈grs∧Given g∧G20 K0 (t,())=some (g,0,0,()):=by
  simp only [txs,List.mem_cons,List.not_mem_nil,or_false] at ht
  rcases ht with rfl | rfl | rfl | rfl | rfl
  ·exact ⟨gr0,by simp [grs],⟨grD0,grR0,grC0⟩,G20_of grP0 grD0 grR0 grL0⟩
  ·exact ⟨gr1,by simp [grs],⟨grD1,grR1,grC1⟩,G20_of grP1 grD1 grR1 grL1⟩
  ·exact ⟨gr2,by simp [grs],⟨grD2,grR2,grC2⟩,G20_of grP2 grD2 grR2 grL2⟩
  ·exact ⟨gr3,by simp [grs],⟨grD3,grR3,grC3⟩,G20_of grP3 grD3 grR3 grL3⟩
  ·exact ⟨gr4,by simp [grs],⟨grD4,grR4,grC4⟩,G20_of grP4 grD4 grR4 grL4⟩
 obtain ⟨g,hm,hg,h2⟩:=key
 refine ⟨g,hm,hg,?_⟩
 show Option.bind (G21 K0 ((a:Int),())) _=_
 rw [h1]
 show Option.bind (G20 K0 (t,())) _=_
 rw [h2]
 rfl
end Go.Pi
namespace Go.Pi
set_option linter.unusedVariables false
set_option maxRecDepth 20000
structure DfaOk (nt:Nat) (d:DfaT6):Prop where
 pos:0<d.2.1.length
 acc:d.2.2.1.length=d.2.1.length
 row: ∀r∈d.2.1, ∀x∈r, -1≤x∧x<d.2.1.length
 cls: ∀r∈d.2.1, ∀x∈d.1.1,0≤x∧x<r.length
 out: ∀x∈d.2.2.1, -1≤x∧x<nt
theorem chkD_ok {nt:Nat} {d:DfaT6} (h:chkD nt d=true):DfaOk nt d:=by
 simp only [chkD,Bool.and_eq_true,decide_eq_true_eq,beq_iff_eq,List.all_eq_true,inR] at h
 obtain ⟨h1,h2,h3,h4⟩:=h
 exact ⟨h1,h2,fun r hr=>(h3 r hr).1,fun r hr=>(h3 r hr).2,h4⟩
theorem DfaOk.get {nt:Nat} {d:DfaT6} (h:DfaOk nt d) {r:List Int} (hr:r∈d.2.1) {z:Nat} (hz:z<256) :
  0≤Arr.get d.1 z∧Arr.get d.1 z<r.length:=by
 have hl:d.1.1.length=256:=d.1.2
 have e:Arr.get d.1 z=d.1.1[z]'(by omega):=by
  show d.1.1.getD z 0=_
  rw [List.getD_eq_getElem?_getD,List.getElem?_eq_getElem (by omega)];rfl
 rw [e]
 exact h.cls r hr _ (List.getElem_mem _)
theorem G136_ok {nt:Nat} {d:DfaT6} (h:DfaOk nt d) {bs:List Int} (hb: ∀x∈bs,0≤x∧x<256)
  (hl:bs.length≤100000) {k:Nat} (hk:bs.length<k) (hn:(d.2.1.length:Int)<9223372036854775807) :
  Ok (G136 k (d,bs,())) fun r=>r=(-1,0,())∨(0≤r.1∧r.1<nt∧1≤r.2.1∧r.2.1≤bs.length):=by
 show Ok (Option.bind (iter k (g136_1 k) (bs,0, -1,0,0,d,())) _) _
 refine Ok.bind (Q:=fun (r:AtT8)=>r=(-1,0,())∨(0≤r.1∧r.1<nt∧1≤r.2.1∧r.2.1≤bs.length)) ?_ ?_
 ·refine Ok.iter (fun p=> ∃(s x n:Int) (i:Nat),i≤bs.length∧0≤s∧s<d.2.1.length ∧
    ((x= -1∧n=0)∨(0≤x∧x<nt∧1≤n∧n≤bs.length))∧p=(bs,s,x,n,(i:Int),d,()))
   (fun p=>(bs.length-p.2.2.2.2.1).toNat) ?_ k _ ⟨0, -1,0,0,by omega,by omega,by have:=h.pos;omega,Or.inl ⟨rfl,rfl⟩,rfl⟩
   (by show ((bs.length:Int)-0).toNat<k;omega)
  rintro _ ⟨s,x,n,i,hi,hs,hs2,hx,rfl⟩
  have fin:(x,n,())=((-1,0,()):AtT8)∨(0≤x∧x<nt∧1≤n∧n≤bs.length):=by
   rcases hx with ⟨rfl,rfl⟩ | hx
   ·exact Or.inl rfl
   ·exact Or.inr hx
  refine Ok.dec (p:=(i:Int)<(bs.length:Int)) (fun hlt=> ?_) (fun _=>Ok.some fin)
  refine Ok.at hs hs2 fun r hr _=>Ok.at (by omega) (by omega) fun c hc _=> ?_
  have hc2:=hb c hc
  refine Ok.inr hc2.1 hc2.2 ?_
  have hg:=h.get hr (z:=c.toNat) (by omega)
  refine Ok.at hg.1 hg.2 fun s2 hs2m _=> ?_
  have hr2:=h.row r hr s2 hs2m
  refine Ok.dec (p:=s2<0) (fun _=>Ok.some fin) (fun hnn=> ?_)
  have ha:=h.acc
  refine Ok.at (by omega) (by omega) fun y hy hyi=> ?_
  have ho:=h.out y hy
  have hw:w64 ((i:Int)+1)=((i+1:Nat):Int):=by rw [w64_ok (by omega) (by omega)];rfl
  refine Ok.bind (Q:=fun p=> ∃x' n':Int,((x'= -1∧n'=0)∨(0≤x'∧x'<nt∧1≤n'∧n'≤bs.length))∧p=(bs,s2,x',n',(i:Int),d,())) ?_ ?_
  ·refine Ok.dec (p:=y≥0) (fun hy0=> ?_) (fun _=>Ok.some ⟨x,n,hx,rfl⟩)
   refine Ok.at (by omega) (by omega) fun y2 hy2 hy2i=> ?_
   have ey:y2=y:=by rw [hyi] at hy2i;exact (Option.some.inj hy2i).symm
   subst ey
   refine Ok.some ⟨y2,((i+1:Nat):Int),Or.inr ⟨by omega,by omega,by omega,by omega⟩,?_⟩
   rw [hw]
  ·rintro _ ⟨x',n',hx',rfl⟩
   refine Ok.some ⟨⟨s2,x',n',i+1,by omega,by omega,by omega,hx',?_⟩,?_⟩
   ·show (bs,s2,x',n',w64 ((i:Int)+1),d,())=_
    rw [hw]
   ·show ((bs.length:Int)-w64 ((i:Int)+1)).toNat<((bs.length:Int)-(i:Int)).toNat
    rw [hw];omega
 ·rintro ⟨a,b,u⟩ hr
  exact Ok.some hr
structure WOk (nt:Nat) (n:Int) (ws:List ItemT11):Prop where
 at': ∀w∈ws,0≤w.1∧w.1<nt∧0≤w.2.1∧w.2.1<w.2.2.1∧w.2.2.1≤n
 row:ws.Pairwise fun a b=>a.2.2.1≤b.2.1
theorem WOk.mono {nt:Nat} {n m:Int} {ws:List ItemT11} (h:WOk nt n ws) (hm:n≤m):WOk nt m ws:=
 ⟨fun w hw=>by have:=h.at' w hw;omega,h.row⟩
theorem WOk.push {nt:Nat} {n m:Int} {ws:List ItemT11} (h:WOk nt n ws) {x:Int} (h1:0≤x) (h2:x<nt) (h3:n<m) (h0:0≤n) :
  WOk nt m (ws ++ [(x,n,m,())]):=by
 refine ⟨fun w hw=> ?_,?_⟩
 ·rcases List.mem_append.1 hw with hw | hw
  ·have:=h.at' w hw;omega
  ·have e:=List.mem_singleton.1 hw
   subst e
   exact ⟨h1,h2,h0,h3,Int.le_refl _⟩
 ·refine List.pairwise_append.2 ⟨h.row,List.pairwise_singleton _ _,fun a ha b hb=> ?_⟩
  have e:=List.mem_singleton.1 hb
  subst e
  exact (h.at' a ha).2.2.2.2
theorem G133_ok {nt:Nat} {d:DfaT6} (h:DfaOk nt d) {bs:List Int} (hb: ∀x∈bs,0≤x∧x<256)
  (hl:bs.length<100000) {k:Nat} (hk:bs.length<k) (hn:(d.2.1.length:Int)<9223372036854775807) :
  Ok (G133 k (d,bs,())) fun r=>WOk nt bs.length r.1∧r.1.length≤bs.length:=by
 show Ok (Option.bind (iter k (g133_1 k) (bs,0,d,[],())) _) _
 refine Ok.bind (Q:=fun (r:List ItemT11×Unit)=>WOk nt bs.length r.1∧r.1.length≤bs.length) ?_ ?_
 ·refine Ok.iter (fun p=> ∃(i:Nat) (ws:List ItemT11),i≤bs.length∧WOk nt (i:Int) ws∧ws.length≤i∧p=(bs,(i:Int),d,ws,()))
   (fun p=>(bs.length-p.2.1).toNat) ?_ k _ ⟨0,[],by omega,⟨fun w hw=>(nomatch hw),List.Pairwise.nil⟩,Nat.le_refl _,rfl⟩
   (by show ((bs.length:Int)-0).toNat<k;omega)
  rintro _ ⟨i,ws,hi,hws,hlen,rfl⟩
  refine Ok.hi (by omega) (by omega) ?_
  have hdl:(slC (some (i:Int)) none (Int.toNat (i:Int)) bs.length bs).length=bs.length-i:=by
   show (bs.drop i).length=_
   rw [List.length_drop]
  refine Ok.bind (G136_ok h (bs:=slC (some (i:Int)) none (Int.toNat (i:Int)) bs.length bs) (fun x hx=>hb x (List.mem_of_mem_drop (i:=i) hx)) (by omega) (k:=k) (by omega) hn) ?_
  rintro ⟨x,n,u⟩ hr
  refine Ok.dec (p:=x<0) (fun _=>Ok.some ⟨hws.mono (by omega),by show ws.length≤_;omega⟩) (fun hx=> ?_)
  rw [hdl] at hr
  have hr2:0≤x∧x<nt∧1≤n∧n≤((bs.length-i:Nat):Int):=by
   rcases hr with e | e
   ·have e1:x= -1:=congrArg Prod.fst e
    omega
   ·exact e
  have hw:w64 ((i:Int)+n)=((i+n.toNat:Nat):Int):=by rw [w64_ok (by omega) (by omega)];omega
  refine Ok.room (by show ws.length+1≤_;omega) (by omega) (Ok.some ⟨⟨i+n.toNat,ws ++ [(x,(i:Int),((i+n.toNat:Nat):Int),())],by omega,hws.push hr2.1 hr2.2.1 (by omega) (by omega),by rw [List.length_append];show ws.length+1≤_;omega,?_⟩,?_⟩)
  ·show (bs,w64 ((i:Int)+n),d,ws ++ [(x,(i:Int),w64 ((i:Int)+n),())],())=_
   rw [hw]
  ·show ((bs.length:Int)-w64 ((i:Int)+n)).toNat<((bs.length:Int)-(i:Int)).toNat
   rw [hw];omega
 ·rintro ⟨ws,u⟩ hr
  exact Ok.some hr
end Go.Pi
namespace Go.Pi
set_option linter.unusedVariables false
set_option maxRecDepth 20000
theorem G134_ok {g:GrT} {n:Int} {ws:List ItemT11} (h:WOk g.1.length n ws) (hl:ws.length<100000) {k:Nat} (hk:ws.length<k) :
  Ok (G134 k (g,ws,())) fun r=>r.1.Sublist ws:=by
 show Ok (Option.bind (iter k (g134_1 k) (ws,0,g,[],())) _) _
 refine Ok.bind (Q:=fun (r:List ItemT11×Unit)=>r.1.Sublist ws) ?_ ?_
 ·refine Ok.iter (fun p=> ∃(i:Nat) (vs:List ItemT11),i≤ws.length∧vs.Sublist (ws.take i)∧p=(ws,(i:Int),g,vs,()))
   (fun p=>(ws.length-p.2.1).toNat) ?_ k _ ⟨0,[],by omega,List.nil_sublist _,rfl⟩
   (by show ((ws.length:Int)-0).toNat<k;omega)
  rintro _ ⟨i,vs,hi,hvs,rfl⟩
  refine Ok.dec (p:=(i:Int)<(ws.length:Int)) (fun hlt=> ?_) (fun _=>Ok.some (hvs.trans (List.take_sublist _ _)))
  have hlen:vs.length≤i:=by have:=hvs.length_le;rw [List.length_take] at this;omega
  have hw:w64 ((i:Int)+1)=((i+1:Nat):Int):=by rw [w64_ok (by omega) (by omega)];rfl
  refine Ok.bind (Q:=fun p=> ∃b:Bool,p=(ws,(i:Int),b,g,vs,())) ?_ ?_
  ·refine Ok.at (by omega) (by omega) fun w hwm _=> ?_
   have hx:=h.at' w hwm
   refine Ok.dec (p:=w.1<0) (fun _=>Ok.some ⟨true,rfl⟩) (fun _=> ?_)
   refine Ok.at (by omega) (by omega) fun w2 hwm2 _=> ?_
   refine Ok.dec (p:=w2.1≥(g.1.length:Int)) (fun _=>Ok.some ⟨true,rfl⟩) (fun _=> ?_)
   refine Ok.at (by omega) (by omega) fun w3 hwm3 _=> ?_
   have hx3:=h.at' w3 hwm3
   exact Ok.at (by omega) (by omega) fun t _ _=>Ok.some ⟨_,rfl⟩
  ·rintro _ ⟨b,rfl⟩
   refine Ok.bind (Q:=fun p=> ∃us:List ItemT11,us.Sublist (ws.take (i+1))∧p=(ws,(i:Int),g,us,())) ?_ ?_
   ·refine Ok.cond (fun _=> ?_) (fun _=>Ok.some ⟨vs,hvs.trans (List.take_sublist_take_left (by omega)),rfl⟩)
    refine Ok.at (by omega) (by omega) fun w _ hwi=> ?_
    refine Ok.room (by show vs.length+1≤_;omega) (by omega) (Ok.some ⟨vs ++ [w],?_,rfl⟩)
    rw [List.take_succ]
    have e:ws[i]? = some w:=hwi
    rw [e]
    exact hvs.append (List.Sublist.refl _)
   ·rintro _ ⟨us,hus,rfl⟩
    refine Ok.some ⟨⟨i+1,us,by omega,hus,?_⟩,?_⟩
    ·show (ws,w64 ((i:Int)+1),g,us,())=_
     rw [hw]
    ·show ((ws.length:Int)-w64 ((i:Int)+1)).toNat<((ws.length:Int)-(i:Int)).toNat
     rw [hw];omega
 ·rintro ⟨vs,u⟩ hr
  exact Ok.some hr
end Go.Pi
namespace Go.Pi
set_option linter.unusedVariables false
set_option maxRecDepth 20000
abbrev Cube:=List (List (List Bool))
structure CubeOk (nr n:Nat) (c:Cube):Prop where
 len:c.length=nr
 row: ∀m∈c,m.length=n+1∧ ∀r∈m,r.length=n+1
theorem Ok.mkS {β:Type} {e:Nat} {z:Int} {f:Nat→Option β} {R:β→Prop} (h:0≤z) (h2:z≤100000) (he:e≤1000) (k:Ok (f z.toNat) R) :
  Ok ((Go.Pi.mkS e z).bind f) R:=by
 have hr:(100000000:Int)≤(roomy:Int):=by decide
 have hm:z*(e:Int)≤100000*1000:=Int.mul_le_mul h2 (by omega) (by omega) (by omega)
 have e1:Go.Pi.mkS e z=Option.some z.toNat:=if_pos ⟨h,by omega,by omega⟩
 exact Ok.eq e1 k
theorem l139_3 {nr n:Nat} {row:List Int} {start idx:Int} {i:Nat} {x:Int} {g:GrT} {ws:List ItemT11} {c:Cube} {cur:List Bool}
  (hc:CubeOk nr n c) (hx:0≤x) (hx2:x<nr) (hi:i≤n) (hn:n<100000) (k:Nat) (hk:n+1<k) (nx:List Bool) (hnx:nx.length=n+1) :
  Ok (iter k (g139_3 k) (row,start,(n:Int),idx,(i:Int),x,(i:Int),g,ws,c,cur,nx,())) fun r=>
   ∃nx':List Bool,nx'.length=n+1∧r=(row,start,(n:Int),idx,(i:Int),g,ws,c,cur,nx',()):=by
 refine Ok.iter (fun p=> ∃(j:Nat) (nx:List Bool),j≤n+1∧nx.length=n+1∧p=(row,start,(n:Int),idx,(i:Int),x,(j:Int),g,ws,c,cur,nx,()))
  (fun p=>((n:Int)+1-p.2.2.2.2.2.2.1).toNat) ?_ k _ ⟨i,nx,by omega,hnx,rfl⟩ (by show ((n:Int)+1-i).toNat<k;omega)
 rintro _ ⟨j,nx,hj,hl,rfl⟩
 refine Ok.dec (p:=(j:Int)≤(n:Int)) (fun hlt=> ?_) (fun _=>Ok.some ⟨nx,hl,rfl⟩)
 have hw:w64 ((j:Int)+1)=((j+1:Nat):Int):=by rw [w64_ok (by omega) (by omega)];rfl
 refine Ok.bind (Q:=fun p=> ∃nx':List Bool,nx'.length=n+1∧p=(row,start,(n:Int),idx,(i:Int),x,(j:Int),g,ws,c,cur,nx',())) ?_ ?_
 ·refine Ok.at (by omega) (by omega) fun _ _ _=>Ok.get (by omega) fun b _ _=> ?_
  refine Ok.cond (fun _=> ?_) (fun _=> ?_)
  ·exact Ok.at (by omega) (by omega) fun _ _ _=>Ok.get (by omega) fun _ _ _=>Ok.some ⟨_,by rw [List.length_set];exact hl,rfl⟩
  ·have hcl:=hc.len
   refine Ok.at (by omega) (by omega) fun _ _ _=>Ok.get (by omega) fun _ _ _=>Ok.get (by omega) fun m1 hm1 _=> ?_
   have h1:=hc.row m1 hm1
   refine Ok.at (by omega) (by omega) fun _ _ _=>Ok.get (by omega) fun m2 hm2 _=> ?_
   have h2:=hc.row m2 hm2
   refine Ok.get (by omega) fun _ _ _=>Ok.get (by omega) fun m3 hm3 _=> ?_
   have h3:=hc.row m3 hm3
   refine Ok.get (by omega) fun r3 hr3 _=> ?_
   have h3r:=h3.2 r3 hr3
   refine Ok.at (by omega) (by omega) fun _ _ _=>Ok.get (by omega) fun m4 hm4 _=> ?_
   have h4:=hc.row m4 hm4
   refine Ok.get (by omega) fun r4 hr4 _=> ?_
   have h4r:=h4.2 r4 hr4
   refine Ok.get (by omega) fun _ _ _=> ?_
   exact Ok.at (by omega) (by omega) fun _ _ _=>Ok.get (by omega) fun _ _ _=>Ok.some ⟨_,by rw [List.length_set];exact hl,rfl⟩
 ·rintro _ ⟨nx',hl',rfl⟩
  refine Ok.some ⟨⟨j+1,nx',by omega,hl',?_⟩,?_⟩
  ·show (row,start,(n:Int),idx,(i:Int),x,w64 ((j:Int)+1),g,ws,c,cur,nx',())=_
   rw [hw]
  ·show ((n:Int)+1-w64 ((j:Int)+1)).toNat<((n:Int)+1-(j:Int)).toNat
   rw [hw];omega
theorem l139_2 {nr n:Nat} {row:List Int} {start:Int} {idx:Int} {g:GrT} {ws:List ItemT11} {c:Cube} {cur:List Bool}
  (hc:CubeOk nr n c) (hrow: ∀x∈row,x<nr) (hi:0≤idx) (hi2:idx<row.length) (hs:0≤start) (hs2:start≤n) (hn:n<100000) (hws:ws.length=n) (k:Nat) (hk:n+1<k)
  (hcur:cur.length=n+1) (nx:List Bool) (hnx:nx.length=n+1) :
  Ok (iter k (g139_2 k) (row,start,(n:Int),idx,start,g,ws,c,cur,nx,())) fun r=>
   ∃nx':List Bool,nx'.length=n+1∧r=(row,start,(n:Int),idx,g,ws,c,nx',()):=by
 refine Ok.iter (fun p=> ∃(i:Nat) (nx:List Bool),i≤n+1∧nx.length=n+1∧p=(row,start,(n:Int),idx,(i:Int),g,ws,c,cur,nx,()))
  (fun p=>((n:Int)+1-p.2.2.2.2.1).toNat) ?_ k _ ⟨start.toNat,nx,by omega,hnx,by rw [Int.toNat_of_nonneg hs]⟩ (by show ((n:Int)+1-start).toNat<k;omega)
 rintro _ ⟨i,nx,hj,hl,rfl⟩
 refine Ok.dec (p:=(i:Int)≤(n:Int)) (fun hlt=> ?_) (fun _=>Ok.some ⟨nx,hl,rfl⟩)
 have hw:w64 ((i:Int)+1)=((i+1:Nat):Int):=by rw [w64_ok (by omega) (by omega)];rfl
 refine Ok.bind (Q:=fun p=> ∃nx':List Bool,nx'.length=n+1∧p=(row,start,(n:Int),idx,(i:Int),g,ws,c,cur,nx',())) ?_ ?_
 ·refine Ok.at (by omega) (by omega) fun _ _ _=>Ok.get (by omega) fun b _ _=> ?_
  refine Ok.cond (fun _=>Ok.some ⟨nx,hl,rfl⟩) (fun _=> ?_)
  refine Ok.at hi hi2 fun x hx _=> ?_
  have hx1:=hrow x hx
  refine Ok.dec (p:=x<0) (fun hneg=> ?_) (fun hneg=> ?_)
  ·refine Ok.bind (Q:=fun p=> ∃b:Bool,(b=true→(i:Int)<n)∧p=(row,start,(n:Int),idx,(i:Int),b,g,ws,c,cur,nx,())) ?_ ?_
   ·refine Ok.dec (p:=(i:Int)<(n:Int)) (fun h=> ?_) (fun _=>Ok.some ⟨false,(fun e=>nomatch e),rfl⟩)
    exact Ok.at (by omega) (by omega) fun w _ _=>Ok.some ⟨_,fun _=>h,rfl⟩
   ·rintro _ ⟨b,hb,rfl⟩
    refine Ok.bind (Q:=fun p=> ∃nx':List Bool,nx'.length=n+1∧p=(row,start,(n:Int),idx,(i:Int),g,ws,c,cur,nx',())) ?_ ?_
    ·refine Ok.cond (fun hbt=> ?_) (fun _=>Ok.some ⟨nx,hl,rfl⟩)
     have hb2:=hb hbt
     have e1:Int.toNat (w64 ((i:Int)+1))=i+1:=by rw [hw];rfl
     refine Ok.at (by rw [hw];omega) (by rw [hw];omega) fun _ _ _=>Ok.get (by rw [e1];omega) fun _ _ _=>Ok.some ⟨_,by rw [List.length_set];exact hl,rfl⟩
    ·rintro _ ⟨nx',hl',rfl⟩
     exact Ok.some ⟨nx',hl',rfl⟩
  ·refine Ok.bind (l139_3 (row:=row) (start:=start) (idx:=idx) (g:=g) (ws:=ws) (cur:=cur) (i:=i) (x:=x) hc (by omega) hx1 (by omega) hn k hk nx hl) ?_
   rintro _ ⟨nx',hl',rfl⟩
   exact Ok.some ⟨nx',hl',rfl⟩
 ·rintro _ ⟨nx',hl',rfl⟩
  refine Ok.some ⟨⟨i+1,nx',by omega,hl',?_⟩,?_⟩
  ·show (row,start,(n:Int),idx,w64 ((i:Int)+1),g,ws,c,cur,nx',())=_
   rw [hw]
  ·show ((n:Int)+1-w64 ((i:Int)+1)).toNat<((n:Int)+1-(i:Int)).toNat
   rw [hw];omega
theorem G139_ok {nr n:Nat} {row:List Int} {start:Int} {g:GrT} {ws:List ItemT11} {c:Cube}
  (hc:CubeOk nr n c) (hrow: ∀x∈row,x<nr) (hrl:row.length<100000) (hs:0≤start) (hs2:start≤n) (hn:n<100000) (hws:ws.length=n) (k:Nat) (hk:n+1<k) (hk2:row.length<k) :
  Ok (G139 k (row,start,g,ws,c,())) fun r=> ∃bs:List Bool,bs.length=n+1∧r=(g,ws,c,bs,()):=by
 have hw1:w64 ((ws.length:Int)+1)=((n+1:Nat):Int):=by rw [w64_ok (by omega) (by omega),hws];rfl
 have hw2:w64 ((n:Int)+1)=((n+1:Nat):Int):=by rw [w64_ok (by omega) (by omega)];rfl
 show Ok (Option.bind (Go.Pi.mkS 1 (w64 ((ws.length:Int)+1))) _) _
 refine Ok.mkS (by omega) (by omega) (by omega) ?_
 have hr0:(List.replicate (Int.toNat (w64 ((ws.length:Int)+1))) false).length=n+1:=by rw [List.length_replicate,hw1];rfl
 refine Ok.at (by omega) (by omega) fun _ _ _=>Ok.get (by omega) fun _ _ _=> ?_
 refine Ok.bind (Q:=fun r=> ∃bs:List Bool,bs.length=n+1∧r=(g,ws,c,bs,())) ?_ ?_
 ·refine Ok.iter (fun p=> ∃(j:Nat) (bs:List Bool),j≤row.length∧bs.length=n+1∧p=(row,start,(n:Int),(j:Int),g,ws,c,bs,()))
   (fun p=>((row.length:Int)-p.2.2.2.1).toNat) ?_ k _ ⟨0,List.set (List.replicate (Int.toNat (w64 ((ws.length:Int)+1))) false) (Int.toNat start) true,by omega,by rw [List.length_set];exact hr0,by rw [hws];rfl⟩ (by show ((row.length:Int)-0).toNat<k;omega)
  rintro _ ⟨j,bs,hj,hbs,rfl⟩
  refine Ok.dec (p:=(j:Int)<(row.length:Int)) (fun hlt=> ?_) (fun _=>Ok.some ⟨bs,hbs,rfl⟩)
  have hw:w64 ((j:Int)+1)=((j+1:Nat):Int):=by rw [w64_ok (by omega) (by omega)];rfl
  refine Ok.mkS (by omega) (by omega) (by omega) ?_
  refine Ok.bind (l139_2 (row:=row) (start:=start) (idx:=(j:Int)) (g:=g) (ws:=ws) (cur:=bs) hc hrow (by omega) hlt hs hs2 hn hws k hk hbs _ (by rw [List.length_replicate,hw2];rfl)) ?_
  rintro _ ⟨nx,hnx,rfl⟩
  refine Ok.some ⟨⟨j+1,nx,by omega,hnx,?_⟩,?_⟩
  ·show (row,start,(n:Int),w64 ((j:Int)+1),g,ws,c,nx,())=_
   rw [hw]
  ·show ((row.length:Int)-w64 ((j:Int)+1)).toNat<((row.length:Int)-(j:Int)).toNat
   rw [hw];omega
 ·rintro _ ⟨bs,hbs,rfl⟩
  exact Ok.some ⟨bs,hbs,rfl⟩
end Go.Pi
namespace Go.Pi
set_option linter.unusedVariables false
set_option maxRecDepth 20000
theorem sum_set {α:Type} (f:α→Nat): ∀(l:List α) (i:Nat) (x y:α),l[i]? = some x→((l.set i y).map f).sum+f x=(l.map f).sum+f y
 | a::l,0,x,y,h=>by
  have e:a=x:=Option.some.inj h
  subst e
  simp only [List.set_cons_zero,List.map_cons,List.sum_cons]
  omega
 | a::l,i+1,x,y,h=>by
  have:=sum_set f l i x y h
  simp only [List.set_cons_succ,List.map_cons,List.sum_cons]
  omega
def cfb (b:Bool):Nat:=if b then 0 else 1
def cf1 (r:List Bool):Nat:=(r.map cfb).sum
def cf2 (m:List (List Bool)):Nat:=(m.map cf1).sum
def cf3 (c:Cube):Nat:=(c.map cf2).sum
theorem CubeOk.set {nr n:Nat} {c:Cube} (h:CubeOk nr n c) {x i j:Nat} {m:List (List Bool)} {r:List Bool}
  (hm:c[x]? = some m) (hr:m[i]? = some r) (hj:r[j]? = some false) :
  CubeOk nr n (c.set x (m.set i (r.set j true)))∧cf3 (c.set x (m.set i (r.set j true)))<cf3 c:=by
 have h1:=h.row m (List.mem_of_getElem? hm)
 have h2:=h1.2 r (List.mem_of_getElem? hr)
 refine ⟨⟨by rw [List.length_set];exact h.len,fun a ha=> ?_⟩,?_⟩
 ·rcases List.mem_or_eq_of_mem_set ha with ha | rfl
  ·exact h.row a ha
  ·refine ⟨by rw [List.length_set];exact h1.1,fun b hb=> ?_⟩
   rcases List.mem_or_eq_of_mem_set hb with hb | rfl
   ·exact h1.2 b hb
   ·rw [List.length_set];exact h2
 ·have e1:=sum_set cfb r j false true hj
  have e2:=sum_set cf1 m i r (r.set j true) hr
  have e3:=sum_set cf2 c x m (m.set i (r.set j true)) hm
  have f1:cfb false=1:=rfl
  have f2:cfb true=0:=rfl
  have g1:cf1 (r.set j true)+1=cf1 r:=by show _+_=(r.map cfb).sum;unfold cf1;omega
  have g2:cf2 (m.set i (r.set j true))+cf1 r=cf2 m+cf1 (r.set j true):=e2
  have g3:cf3 (c.set x (m.set i (r.set j true)))+cf2 m=cf3 c+cf2 (m.set i (r.set j true)):=e3
  omega
structure Stp (nr n:Nat) (ch:Bool) (c:Cube) (ch':Bool) (c':Cube):Prop where
 ok:CubeOk nr n c'
 le:cf3 c'≤cf3 c
 lt:ch'=true→ch=true∨cf3 c'<cf3 c
theorem Stp.refl {nr n:Nat} {ch:Bool} {c:Cube} (h:CubeOk nr n c):Stp nr n ch c ch c:=⟨h,Nat.le_refl _,Or.inl⟩
theorem Stp.trans {nr n:Nat} {ch ch' ch'':Bool} {c c' c'':Cube} (h:Stp nr n ch c ch' c') (h2:Stp nr n ch' c' ch'' c''):Stp nr n ch c ch'' c'':=by
 refine ⟨h2.ok,Nat.le_trans h2.le h.le,fun e=> ?_⟩
 rcases h2.lt e with e1 | e1
 ·rcases h.lt e1 with e2 | e2
  ·exact Or.inl e2
  ·exact Or.inr (Nat.lt_of_le_of_lt h2.le e2)
 ·exact Or.inr (Nat.lt_of_lt_of_le e1 h.le)
theorem l137_6 {nr n:Nat} {ch:Bool} {ri:Int} {i:Nat} {g:GrT} {ws:List ItemT11} {c:Cube} {rl:RuT} {bs:List Bool}
  (hc:CubeOk nr n c) (h0:0≤rl.1) (h1:rl.1<nr) (hi:i≤n) (hn:n<100000) (hbs:bs.length=n+1) (k:Nat) (hk:n+1<k) :
  Ok (iter k (g137_6 k) ((n:Int),ch,ri,(i:Int),(i:Int),g,ws,c,rl,bs,())) fun r=>
   ∃ch' c',Stp nr n ch c ch' c'∧r=((n:Int),ch',ri,(i:Int),g,ws,c',rl,()):=by
 refine Ok.iter (fun p=> ∃(j:Nat) (ch':Bool) (c':Cube),j≤n+1∧Stp nr n ch c ch' c'∧p=((n:Int),ch',ri,(i:Int),(j:Int),g,ws,c',rl,bs,()))
  (fun p=>((n:Int)+1-p.2.2.2.2.1).toNat) ?_ k _ ⟨i,ch,c,by omega,Stp.refl hc,rfl⟩ (by show ((n:Int)+1-i).toNat<k;omega)
 rintro _ ⟨j,ch1,c1,hj,hst,rfl⟩
 refine Ok.dec (p:=(j:Int)≤(n:Int)) (fun hlt=> ?_) (fun _=>Ok.some ⟨ch1,c1,hst,rfl⟩)
 have hw:w64 ((j:Int)+1)=((j+1:Nat):Int):=by rw [w64_ok (by omega) (by omega)];rfl
 have hcl:=hst.ok.len
 refine Ok.bind (Q:=fun p=> ∃b:Bool,(b=true→ ∃m r,c1[rl.1.toNat]? = some m∧m[i]? = some r∧r[j]? = some false)∧p=((n:Int),ch1,ri,(i:Int),(j:Int),b,g,ws,c1,rl,bs,())) ?_ ?_
 ·refine Ok.at (by omega) (by omega) fun _ _ _=>Ok.get (by omega) fun b _ _=> ?_
  refine Ok.cond (fun _=> ?_) (fun _=>Ok.some ⟨false,(fun e=>nomatch e),rfl⟩)
  refine Ok.at (by omega) (by omega) fun _ _ _=>Ok.get (by omega) fun _ _ _=>Ok.get (by omega) fun m1 hm1 _=> ?_
  have q1:=hst.ok.row m1 hm1
  refine Ok.at (by omega) (by omega) fun _ _ _=>Ok.get (by omega) fun m2 hm2 _=> ?_
  have q2:=hst.ok.row m2 hm2
  refine Ok.get (by omega) fun _ _ _=>Ok.get (by omega) fun m3 hm3 _=> ?_
  have q3:=hst.ok.row m3 hm3
  refine Ok.get (by omega) fun r3 hr3 _=> ?_
  have q3r:=q3.2 r3 hr3
  refine Ok.at (by omega) (by omega) fun _ _ _=>Ok.get (by omega) fun m4 hm4 hm4i=> ?_
  have q4:=hst.ok.row m4 hm4
  refine Ok.get (by omega) fun r4 hr4 hr4i=> ?_
  have q4r:=q4.2 r4 hr4
  refine Ok.get (by omega) fun b4 _ hb4i=>Ok.some ⟨!b4,fun e=>⟨m4,r4,hm4i,hr4i,?_⟩,rfl⟩
  have e2:b4=false:=by revert e;cases b4<;>simp
  subst e2
  exact hb4i
 ·rintro _ ⟨b,hb,rfl⟩
  refine Ok.bind (Q:=fun p=> ∃ch' c',Stp nr n ch1 c1 ch' c'∧p=((n:Int),ch',ri,(i:Int),(j:Int),g,ws,c',rl,bs,())) ?_ ?_
  ·refine Ok.cond (fun hbt=> ?_) (fun _=>Ok.some ⟨ch1,c1,Stp.refl hst.ok,rfl⟩)
   obtain ⟨m,r,em,er,ej⟩:=hb hbt
   have q:=hst.ok.row m (List.mem_of_getElem? em)
   have qr:=q.2 r (List.mem_of_getElem? er)
   refine Ok.at (by omega) (by omega) fun _ _ _=>Ok.get (by omega) fun _ _ _=>Ok.get (by omega) fun m1 _ hm1=> ?_
   have x1:m1=m:=by rw [em] at hm1;exact (Option.some.inj hm1).symm
   subst x1
   refine Ok.at (by omega) (by omega) fun _ _ _=>Ok.get (by omega) fun m2 _ hm2=> ?_
   have x2:m2=m1:=by rw [em] at hm2;exact (Option.some.inj hm2).symm
   subst x2
   refine Ok.get (by omega) fun _ _ _=>Ok.get (by omega) fun m3 _ hm3=> ?_
   have x3:m3=m2:=by rw [em] at hm3;exact (Option.some.inj hm3).symm
   subst x3
   refine Ok.get (by omega) fun r3 _ hr3=> ?_
   have y3:r3=r:=by have hr3':m3[i]? = some r3:=hr3;rw [er] at hr3';exact (Option.some.inj hr3').symm
   subst y3
   refine Ok.at (by omega) (by omega) fun _ _ _=>Ok.get (by omega) fun m4 _ hm4=> ?_
   have x4:m4=m3:=by rw [em] at hm4;exact (Option.some.inj hm4).symm
   subst x4
   refine Ok.get (by omega) fun r4 _ hr4=> ?_
   have y4:r4=r3:=by have hr4':m4[i]? = some r4:=hr4;rw [er] at hr4';exact (Option.some.inj hr4').symm
   subst y4
   refine Ok.get (by omega) fun b4 _ _=> ?_
   have hset:=hst.ok.set em er ej
   exact Ok.some ⟨true,_,⟨hset.1,Nat.le_of_lt hset.2,fun _=>Or.inr hset.2⟩,rfl⟩
  ·rintro _ ⟨ch2,c2,hst2,rfl⟩
   refine Ok.some ⟨⟨j+1,ch2,c2,by omega,hst.trans hst2,?_⟩,?_⟩
   ·show ((n:Int),ch2,ri,(i:Int),w64 ((j:Int)+1),g,ws,c2,rl,bs,())=_
    rw [hw]
   ·show ((n:Int)+1-w64 ((j:Int)+1)).toNat<((n:Int)+1-(j:Int)).toNat
    rw [hw];omega
end Go.Pi
namespace Go.Pi
set_option linter.unusedVariables false
set_option maxRecDepth 20000
structure GOk (B:Nat) (g:GrT):Prop where
 pos:0<g.2.1.length
 nr:g.2.1.length<B
 big:B≤100000
 rules:g.2.2.2.1.length<B
 lhs: ∀r∈g.2.2.2.1,0≤r.1∧r.1<g.2.1.length
 rhs: ∀r∈g.2.2.2.1, ∀x∈r.2.1, -(g.1.length:Int)≤x∧x<g.2.1.length
 len: ∀r∈g.2.2.2.1,r.2.1.length<B
theorem l137_5 {B n:Nat} {ch:Bool} {ri:Int} {g:GrT} {ws:List ItemT11} {c:Cube} {rl:RuT} (hg:GOk B g) (hrl:rl∈g.2.2.2.1)
  (hc:CubeOk g.2.1.length n c) (hn:n<100000) (hws:ws.length=n) (k:Nat) (hk:n+1<k) (hk2:B≤k) :
  Ok (iter k (g137_5 k) ((n:Int),ch,ri,0,g,ws,c,rl,())) fun r=>
   ∃ch' c',Stp g.2.1.length n ch c ch' c'∧r=((n:Int),ch',ri,g,ws,c',()):=by
 refine Ok.iter (fun p=> ∃(i:Nat) (ch':Bool) (c':Cube),i≤n+1∧Stp g.2.1.length n ch c ch' c'∧p=((n:Int),ch',ri,(i:Int),g,ws,c',rl,()))
  (fun p=>((n:Int)+1-p.2.2.2.1).toNat) ?_ k _ ⟨0,ch,c,by omega,Stp.refl hc,rfl⟩ (by show ((n:Int)+1-0).toNat<k;omega)
 rintro _ ⟨i,ch1,c1,hj,hst,rfl⟩
 refine Ok.dec (p:=(i:Int)≤(n:Int)) (fun hlt=> ?_) (fun _=>Ok.some ⟨ch1,c1,hst,rfl⟩)
 have hw:w64 ((i:Int)+1)=((i+1:Nat):Int):=by rw [w64_ok (by omega) (by omega)];rfl
 have hlen:=hg.len rl hrl
 have hbig:=hg.big
 have hl:=hg.lhs rl hrl
 refine Ok.bind (G139_ok (g:=g) (ws:=ws) (start:=(i:Int)) hst.ok (fun x hx=>(hg.rhs rl hrl x hx).2) (by omega) (by omega) hlt hn hws k hk (by omega)) ?_
 rintro _ ⟨bs,hbs,rfl⟩
 refine Ok.bind (l137_6 (ch:=ch1) (ri:=ri) (i:=i) (g:=g) (ws:=ws) (rl:=rl) hst.ok hl.1 hl.2 (by omega) hn hbs k hk) ?_
 rintro _ ⟨ch2,c2,hst2,rfl⟩
 refine Ok.some ⟨⟨i+1,ch2,c2,by omega,hst.trans hst2,?_⟩,?_⟩
 ·show ((n:Int),ch2,ri,w64 ((i:Int)+1),g,ws,c2,rl,())=_
  rw [hw]
 ·show ((n:Int)+1-w64 ((i:Int)+1)).toNat<((n:Int)+1-(i:Int)).toNat
  rw [hw];omega
theorem l137_4 {B n:Nat} {ch:Bool} {g:GrT} {ws:List ItemT11} {c:Cube} (hg:GOk B g)
  (hc:CubeOk g.2.1.length n c) (hn:n<100000) (hws:ws.length=n) (k:Nat) (hk:n+1<k) (hk2:B≤k) :
  Ok (iter k (g137_4 k) ((n:Int),ch,0,g,ws,c,())) fun r=>
   ∃ch' c',Stp g.2.1.length n ch c ch' c'∧r=((n:Int),ch',g,ws,c',()):=by
 have hrs:=hg.rules
 have hbig:=hg.big
 refine Ok.iter (fun p=> ∃(i:Nat) (ch':Bool) (c':Cube),i≤g.2.2.2.1.length∧Stp g.2.1.length n ch c ch' c'∧p=((n:Int),ch',(i:Int),g,ws,c',()))
  (fun p=>((g.2.2.2.1.length:Int)-p.2.2.1).toNat) ?_ k _ ⟨0,ch,c,by omega,Stp.refl hc,rfl⟩ (by show ((g.2.2.2.1.length:Int)-0).toNat<k;omega)
 rintro _ ⟨i,ch1,c1,hj,hst,rfl⟩
 refine Ok.dec (p:=(i:Int)<(g.2.2.2.1.length:Int)) (fun hlt=> ?_) (fun _=>Ok.some ⟨ch1,c1,hst,rfl⟩)
 have hw:w64 ((i:Int)+1)=((i+1:Nat):Int):=by rw [w64_ok (by omega) (by omega)];rfl
 refine Ok.at (by omega) hlt fun rl hrl _=> ?_
 refine Ok.bind (l137_5 (ch:=ch1) (ri:=(i:Int)) (ws:=ws) hg hrl hst.ok hn hws k hk hk2) ?_
 rintro _ ⟨ch2,c2,hst2,rfl⟩
 refine Ok.some ⟨⟨i+1,ch2,c2,by omega,hst.trans hst2,?_⟩,?_⟩
 ·show ((n:Int),ch2,w64 ((i:Int)+1),g,ws,c2,())=_
  rw [hw]
 ·show ((g.2.2.2.1.length:Int)-w64 ((i:Int)+1)).toNat<((g.2.2.2.1.length:Int)-(i:Int)).toNat
  rw [hw];omega
theorem l137_3 {B n:Nat} {g:GrT} {ws:List ItemT11} {c:Cube} (hg:GOk B g)
  (hc:CubeOk g.2.1.length n c) (hn:n<100000) (hws:ws.length=n) (k:Nat) (hk:n+1<k) (hk2:B≤k) (hk3:cf3 c+1<k) :
  Ok (iter k (g137_3 k) ((n:Int),true,g,ws,c,())) fun r=>
   ∃c',CubeOk g.2.1.length n c'∧r=(g,ws,c',()):=by
 refine Ok.iter (fun p=> ∃(ch:Bool) (c':Cube),CubeOk g.2.1.length n c'∧p=((n:Int),ch,g,ws,c',()))
  (fun p=>cf3 p.2.2.2.2.1+(if p.2.1 then 1 else 0)) ?_ k _ ⟨true,c,hc,rfl⟩ (by show cf3 c+1<k;omega)
 rintro _ ⟨ch,c1,hc1,rfl⟩
 cases ch
 ·exact Ok.some ⟨c1,hc1,rfl⟩
 ·refine Ok.bind (l137_4 (ch:=false) (ws:=ws) hg hc1 hn hws k hk hk2) ?_
  rintro _ ⟨ch2,c2,hst,rfl⟩
  refine Ok.some ⟨⟨ch2,c2,hst.ok,rfl⟩,?_⟩
  show cf3 c2+(if ch2=true then 1 else 0)<cf3 c1+1
  have h1:=hst.le
  cases ch2
  ·simp only [Bool.false_eq_true,if_false];omega
  ·rcases hst.lt rfl with h | h
   ·cases h
   ·simp only [if_true];omega
theorem sum_le {α:Type} (f:α→Nat) (b:Nat): ∀(l:List α),(∀x∈l,f x≤b)→(l.map f).sum≤l.length*b
 | [],_=>Nat.zero_le _
 | a::l,h=>by
  have h1:=h a List.mem_cons_self
  have h2:=sum_le f b l (fun x hx=>h x (List.mem_cons_of_mem _ hx))
  simp only [List.map_cons,List.sum_cons,List.length_cons,Nat.add_mul,Nat.one_mul]
  omega
theorem CubeOk.cf {nr n:Nat} {c:Cube} (h:CubeOk nr n c):cf3 c≤nr*((n+1)*(n+1)):=by
 have:=sum_le cf2 ((n+1)*(n+1)) c fun m hm=>by
  have hm2:=h.row m hm
  have:=sum_le cf1 (n+1) m fun r hr=>by
   have:=sum_le cfb 1 r fun b _=>by cases b<;>decide
   rw [hm2.2 r hr] at this
   unfold cf1;omega
  rw [hm2.1] at this
  exact this
 rw [h.len] at this
 exact this
theorem l137_2 {n:Nat} {idx:Int} {g:GrT} {ws:List ItemT11} {c:Cube} (hn:n<99999) (k:Nat) (hk:n+1<k)
  (rs:List (List Bool)) (hrs:rs.length=n+1) :
  Ok (iter k (g137_2 k) ((n:Int),idx,0,g,ws,c,rs,())) fun r=>
   ∃m:List (List Bool),(m.length=n+1∧ ∀r∈m,r.length=n+1)∧r=((n:Int),idx,g,ws,c,m,()):=by
 refine Ok.iter (fun p=> ∃(j:Nat) (m:List (List Bool)),j≤n+1∧m.length=n+1∧(∀t,t<j→ ∀r,m[t]? = some r→r.length=n+1)∧p=((n:Int),idx,(j:Int),g,ws,c,m,()))
  (fun p=>((n:Int)+1-p.2.2.1).toNat) ?_ k _ ⟨0,rs,by omega,hrs,fun t ht=>by omega,rfl⟩ (by show ((n:Int)+1-0).toNat<k;omega)
 rintro _ ⟨j,m,hj,hm,hall,rfl⟩
 have hw:w64 ((j:Int)+1)=((j+1:Nat):Int):=by rw [w64_ok (by omega) (by omega)];rfl
 have hw2:w64 ((n:Int)+1)=((n+1:Nat):Int):=by rw [w64_ok (by omega) (by omega)];rfl
 refine Ok.dec (p:=(j:Int)≤(n:Int)) (fun hlt=> ?_) (fun hge=>Ok.some ⟨m,⟨hm,fun r hr=> ?_⟩,rfl⟩)
 ·refine Ok.mkS (by omega) (by omega) (by omega) ?_
  refine Ok.at (by omega) (by omega) fun _ _ _=>Ok.get (by omega) fun _ _ _=> ?_
  refine Ok.some ⟨⟨j+1,m.set j (List.replicate (Int.toNat (w64 ((n:Int)+1))) false),by omega,by rw [List.length_set];exact hm,fun t ht r hr=> ?_,?_⟩,?_⟩
  ·rw [List.getElem?_set] at hr
   by_cases e:j=t
   ·rw [if_pos e,if_pos (by omega)] at hr
    have e2:=Option.some.inj hr
    rw [← e2,List.length_replicate,hw2];rfl
   ·rw [if_neg e] at hr
    exact hall t (by omega) r hr
  ·show ((n:Int),idx,w64 ((j:Int)+1),g,ws,c,_,())=_
   rw [hw];rfl
  ·show ((n:Int)+1-w64 ((j:Int)+1)).toNat<((n:Int)+1-(j:Int)).toNat
   rw [hw];omega
 ·obtain ⟨t,ht,e⟩:=List.mem_iff_getElem.1 hr
  exact hall t (by omega) r (by rw [List.getElem?_eq_getElem ht,e])
theorem l137_1 {B n:Nat} {g:GrT} {ws:List ItemT11} (hg:GOk B g) (hn:n<99999) (k:Nat) (hk:n+1<k) (hk2:B≤k) :
  Ok (iter k (g137_1 k) ((n:Int),0,g,ws,[],())) fun r=>
   ∃c,CubeOk g.2.1.length n c∧r=((n:Int),g,ws,c,()):=by
 have hnr:=hg.nr
 have hbig:=hg.big
 refine Ok.iter (fun p=> ∃(i:Nat) (c:Cube),i≤g.2.1.length∧CubeOk i n c∧p=((n:Int),(i:Int),g,ws,c,()))
  (fun p=>((g.2.1.length:Int)-p.2.1).toNat) ?_ k _ ⟨0,[],by omega,⟨rfl,fun m hm=>nomatch hm⟩,rfl⟩ (by show ((g.2.1.length:Int)-0).toNat<k;omega)
 rintro _ ⟨i,c,hi,hc,rfl⟩
 have hw:w64 ((i:Int)+1)=((i+1:Nat):Int):=by rw [w64_ok (by omega) (by omega)];rfl
 have hw2:w64 ((n:Int)+1)=((n+1:Nat):Int):=by rw [w64_ok (by omega) (by omega)];rfl
 refine Ok.dec (p:=(i:Int)<(g.2.1.length:Int)) (fun hlt=> ?_) (fun hge=>Ok.some ⟨c,(by omega:i=g.2.1.length)▸hc,rfl⟩)
 refine Ok.mkS (by omega) (by omega) (by omega) ?_
 refine Ok.bind (l137_2 (idx:=(i:Int)) (g:=g) (ws:=ws) (c:=c) hn k hk _ (by rw [List.length_replicate,hw2];rfl)) ?_
 rintro _ ⟨m,hm,rfl⟩
 refine Ok.ff rfl ?_
 have hcl:=hc.len
 refine Ok.room (by show c.length+1≤_;omega) (by omega) (Ok.some ⟨⟨i+1,c ++ [m],by omega,⟨by rw [List.length_append,hcl];rfl,fun a ha=> ?_⟩,?_⟩,?_⟩)
 ·rcases List.mem_append.1 ha with ha | ha
  ·exact hc.row a ha
  ·have e:=List.mem_singleton.1 ha
   subst e
   exact hm
 ·show ((n:Int),w64 ((i:Int)+1),g,ws,c ++ [m],())=_
  rw [hw]
 ·show ((g.2.1.length:Int)-w64 ((i:Int)+1)).toNat<((g.2.1.length:Int)-(i:Int)).toNat
  rw [hw];omega
theorem G137_ok {B:Nat} {g:GrT} {ws:List ItemT11} (hg:GOk B g) (hn:ws.length<99999) (k:Nat) (hk:ws.length+1<k) (hk2:B≤k)
  (hk3:g.2.1.length*((ws.length+1)*(ws.length+1))+1<k) :
  Ok (G137 k (g,ws,())) fun r=> ∃c,CubeOk g.2.1.length ws.length c∧r=(g,ws,c,()):=by
 refine Ok.bind (l137_1 (ws:=ws) hg hn k hk hk2) ?_
 rintro _ ⟨c,hc,rfl⟩
 have hcf:=hc.cf
 refine Ok.bind (l137_3 (ws:=ws) hg hc (by omega) rfl k hk hk2 (by omega)) ?_
 rintro _ ⟨c2,hc2,rfl⟩
 exact Ok.some ⟨c2,hc2,rfl⟩
end Go.Pi
namespace Go.Pi
set_option linter.unusedVariables false
set_option maxRecDepth 20000
end Go.Pi
namespace Go.Pi
set_option linter.unusedVariables false
set_option maxRecDepth 20000
theorem all_of {α:Type} {P:α→Prop} [DecidablePred P] {l:List α} {v:α} (hv:v∈l) (h:l.all (fun x=>decide (P x))=true):P v:=
 of_decide_eq_true (List.all_eq_true.1 h v hv)
theorem tmod_in {a b:Int} (h:0≤a) (h2:0<b):0≤Int.tmod a b∧Int.tmod a b<b:=
 ⟨Int.tmod_nonneg _ h,Int.tmod_lt_of_pos _ h2⟩
theorem strL_in (s:List UInt8): ∀x∈strL s,0≤x∧x<256:=by
 intro x hx
 obtain ⟨b,hb,rfl⟩:=List.mem_map.1 hx
 have:=b.toNat_lt
 exact ⟨by omega,by omega⟩
theorem strL_len (s:List UInt8):(strL s).length=s.length:=List.length_map _
theorem l127_1 {tx:List Int} {gs:List (List UInt8)} (hg:0<gs.length) (hg2: ∀w∈gs,w.length≤20) (htx: ∀x∈tx,0≤x∧x<256) (hl:tx.length<4000) (k:Nat) (hk:tx.length<k) :
  Ok (iter k (g127_1 k) (tx,gs,0,[],())) fun r=>(∀x∈r.1,0≤x∧x<256)∧r.1.length≤20*tx.length:=by
 refine Ok.iter (fun p=> ∃(i:Nat) (bs:List Int),i≤tx.length∧((∀x∈bs,0≤x∧x<256)∧bs.length≤20*i)∧p=(tx,gs,(i:Int),bs,()))
  (fun p=>((tx.length:Int)-p.2.2.1).toNat) ?_ k _ ⟨0,[],by omega,⟨fun x hx=>(nomatch hx),Nat.le_refl _⟩,rfl⟩ (by show ((tx.length:Int)-0).toNat<k;omega)
 rintro _ ⟨i,bs,hi,hbs,rfl⟩
 have hw:w64 ((i:Int)+1)=((i+1:Nat):Int):=by rw [w64_ok (by omega) (by omega)];rfl
 refine Ok.dec (p:=(i:Int)<(tx.length:Int)) (fun hlt=> ?_) (fun hge=>Ok.some ⟨hbs.1,Nat.le_trans hbs.2 (by omega)⟩)
 refine Ok.at (by omega) hlt fun v hv _=> ?_
 have hv2:=htx v hv
 have hwv:w64 v=v:=w64_ok (by omega) (by omega)
 have hm:=tmod_in (a:=w64 v) (b:=(gs.length:Int)) (by omega) (by omega)
 refine Ok.nz (by omega) (Ok.at hm.1 hm.2 fun w hwm _=> ?_)
 have hl2:=hg2 w hwm
 have hsl:=strL_len w
 refine Ok.room (by omega) (by omega) (Ok.some ⟨⟨i+1,bs++strL w,by omega,⟨fun x hx=> ?_,by rw [List.length_append];omega⟩,?_⟩,?_⟩)
 ·rcases List.mem_append.1 hx with hx | hx
  ·exact hbs.1 x hx
  ·exact strL_in w x hx
 ·show (tx,gs,w64 ((i:Int)+1),bs++strL w,())=_
  rw [hw]
 ·show ((tx.length:Int)-w64 ((i:Int)+1)).toNat<((tx.length:Int)-(i:Int)).toNat
  rw [hw];omega
theorem G127_ok {a:Int} {tx:List Int} (ha:0≤a) (ha2:a<256) (htx: ∀x∈tx,0≤x∧x<256) (hl:tx.length<4000) (k:Nat) (hk:tx.length<k) :
  Ok (G127 k (a,tx,())) fun r=>(∀x∈r.1,0≤x∧x<256)∧r.1.length≤20*tx.length:=by
 have hwa:w64 a=a:=w64_ok (by omega) (by omega)
 have hm:=tmod_in (a:=w64 a) (b:=5) (by omega) (by omega)
 refine Ok.nz (by decide) (Ok.at hm.1 hm.2 fun _ _ _=>Ok.get (by show Int.toNat (Int.tmod (w64 a) 5)<5;omega) fun gs hgs _=> ?_)
 have hp:0<gs.length∧ ∀w∈gs,w.length≤20:=all_of (P:=fun gs=>0<gs.length∧ ∀w∈gs,w.length≤20) hgs (by decide)
 refine Ok.bind (l127_1 hp.1 hp.2 htx hl k hk) ?_
 rintro ⟨bs,u⟩ h
 exact Ok.some h
end Go.Pi
namespace Go.Pi
set_option linter.unusedVariables false
set_option maxRecDepth 20000
theorem G116_K0:G116 K0 ()=some (true,()):=by kernel_rfl
end Go.Pi
namespace Go.Pi
set_option linter.unusedVariables false
set_option maxRecDepth 20000
def rowH (h:List Nat) (row:List Int):Int:=(row.map fun x=>if x<0 then 0 else ((h.getD x.toNat 0:Nat):Int)).sum
def rowT (row:List Int):Int:=(row.map fun x=>if x<0 then (1:Int) else 0).sum
structure Rk (g:GrT) (c:Int) (h:List Nat):Prop where
 one:1≤c
 rule: ∀r∈g.2.2.2.1,1+rowH h r.2.1+rowT r.2.1*(1-c)≤((h.getD r.1.toNat 0:Nat):Int)
theorem l138_2 {dep i:Int} {g:GrT} {ws:List ItemT11} {c:Cube} {ns:List NodeT17} {x y z:Int} (hl:ns.length<100000) (k:Nat) (hk:ns.length<k) (a b:Int) :
  Ok (iter k (g138_2 k) (dep,0,g,ws,c,ns,x,y,z,a,b,())) fun r=> ∃a' b':Int,r=(g,ws,c,ns,x,y,z,a',b',()):=by
 refine Ok.iter (fun p=> ∃(j:Nat) (a' b':Int),j≤ns.length∧p=(dep,(j:Int),g,ws,c,ns,x,y,z,a',b',()))
  (fun p=>((ns.length:Int)-p.2.1).toNat) ?_ k _ ⟨0,a,b,by omega,rfl⟩ (by show ((ns.length:Int)-0).toNat<k;omega)
 rintro _ ⟨j,a1,b1,hj,rfl⟩
 have hw:w64 ((j:Int)+1)=((j+1:Nat):Int):=by rw [w64_ok (by omega) (by omega)];rfl
 refine Ok.dec (p:=(j:Int)<(ns.length:Int)) (fun hlt=> ?_) (fun _=>Ok.some ⟨a1,b1,rfl⟩)
 refine Ok.bind (Q:=fun p=> ∃a':Int,p=(dep,(j:Int),g,ws,c,ns,x,y,z,a',b1,())) ?_ ?_
 ·exact Ok.cond (fun _=>Ok.at (by omega) hlt fun _ _ _=>Ok.get (by omega) fun _ _ _=>Ok.some ⟨_,rfl⟩) (fun _=>Ok.some ⟨_,rfl⟩)
 ·rintro _ ⟨a2,rfl⟩
  refine Ok.at (by omega) hlt fun _ _ _=>Ok.get (by omega) fun _ _ _=> ?_
  refine Ok.bind (Q:=fun p=> ∃b':Int,p=(dep,(j:Int),g,ws,c,ns,x,y,z,a2,b',())) ?_ ?_
  ·exact Ok.cond (fun _=>Ok.at (by omega) hlt fun _ _ _=>Ok.get (by omega) fun _ _ _=>Ok.some ⟨_,rfl⟩) (fun _=>Ok.some ⟨_,rfl⟩)
  ·rintro _ ⟨b2,rfl⟩
   refine Ok.some ⟨⟨j+1,a2,b2,by omega,?_⟩,?_⟩
   ·show (dep,w64 ((j:Int)+1),g,ws,c,ns,x,y,z,a2,b2,())=_
    rw [hw]
   ·show ((ns.length:Int)-w64 ((j:Int)+1)).toNat<((ns.length:Int)-(j:Int)).toNat
    rw [hw];omega
end Go.Pi
namespace Go.Pi
set_option linter.unusedVariables false
set_option maxRecDepth 20000
def ms (B:Nat) (dep:Int):Nat:=(200-dep).toNat*(B+1)
theorem ms_succ {B:Nat} {dep:Int} (h:dep<200):ms B (dep+1)+(B+1)=ms B dep:=by
 unfold ms
 have e:(200-dep).toNat=(200-(dep+1)).toNat+1:=by omega
 rw [e,Nat.add_mul,Nat.one_mul]
def ESpec (B:Nat) (g:GrT) (ws:List ItemT11) (c:Cube) (cc:Int) (h:List Nat) (e:E140) (d:Nat):Prop:=
 ∀(row:List Int) (i j dep pos:Int),(∀x∈row, -(g.1.length:Int)≤x∧x<g.2.1.length)→row.length<B→0≤i→i≤j→j≤ws.length→0≤dep→dep≤200 →
  cc*(j-i)+rowH h row≤90000→ms B dep+row.length<d →
  Ok (e (row,i,j,dep,pos,g,ws,c,())) fun r=> ∃b ns,r=(b,g,ws,c,ns,())∧(ns.length:Int)≤cc*(j-i)+rowH h row∧(b=true→(ns.length:Int)≤cc*(j-i)+rowH h row+rowT row*(1-cc))
theorem G138R_ok {B:Nat} {g:GrT} {ws:List ItemT11} {c:Cube} {cc:Int} {h:List Nat} {e:E140} {d:Nat} (he:ESpec B g ws c cc h e d) (hg:GOk B g) (hr:Rk g cc h)
  {A i j dep pos:Int} (hi:0≤i) (hij:i≤j) (hj:j≤ws.length) (hd:0≤dep) (hd2:dep≤200) (hcc:0≤cc*(j-i))
  (hb: ∀r∈g.2.2.2.1,cc*(j-i)+rowH h r.2.1≤90000) (hm:ms B dep≤d) (k:Nat) (hk:B≤k) (hk2:90001<k) :
  Ok (G138R k e (A,i,j,dep,pos,g,ws,c,())) fun r=> ∃ns,r=(g,ws,c,ns,())∧(ns.length:Int)≤cc*(j-i)+((h.getD A.toNat 0:Nat):Int):=by
 have hbig:=hg.big
 have hrs:=hg.rules
 refine Ok.bind (Q:=fun r=>r=Sum.inl (g,ws,c,()) ∨ ∃ns:List NodeT17,r=Sum.inr (g,ws,c,ns,())∧(ns.length:Int)≤cc*(j-i)+((h.getD A.toNat 0:Nat):Int)) ?_ ?_
 ·refine Ok.iter (fun p=> ∃(ri:Nat),ri≤g.2.2.2.1.length∧p=(A,i,j,dep,pos,(ri:Int),g,ws,c,()))
   (fun p=>((g.2.2.2.1.length:Int)-p.2.2.2.2.2.1).toNat) ?_ k _ ⟨0,by omega,rfl⟩ (by show ((g.2.2.2.1.length:Int)-0).toNat<k;omega)
  rintro _ ⟨ri,hri,rfl⟩
  have hw:w64 ((ri:Int)+1)=((ri+1:Nat):Int):=by rw [w64_ok (by omega) (by omega)];rfl
  have hwd:w64 (dep+1)=dep+1:=w64_ok (by omega) (by omega)
  refine Ok.bind (Q:=fun p=> ∃b:Bool,(b=true→(ri:Int)<g.2.2.2.1.length∧dep<200)∧p=(A,i,j,dep,pos,(ri:Int),b,g,ws,c,())) ?_ ?_
  ·exact Ok.dec (p:=(ri:Int)<(g.2.2.2.1.length:Int)) (fun h1=>Ok.some ⟨_,fun e=>⟨h1,of_decide_eq_true e⟩,rfl⟩) (fun _=>Ok.some ⟨false,(fun e=>nomatch e),rfl⟩)
  ·rintro _ ⟨b,hbt,rfl⟩
   refine Ok.cond (fun e1=> ?_) (fun _=>Ok.some (Or.inl rfl))
   obtain ⟨h1,h2⟩:=hbt e1
   refine Ok.bind (Q:=fun r=>r=Sum.inl (A,i,j,dep,pos,(ri:Int),g,ws,c,()) ∨ ∃ns:List NodeT17,r=Sum.inr (g,ws,c,ns,())∧(ns.length:Int)≤cc*(j-i)+((h.getD A.toNat 0:Nat):Int)) ?_ ?_
   ·refine Ok.at (by omega) h1 fun v hv hvi=> ?_
    by_cases hA:v.1=A
    ·refine Ok.ff (by simp [hA]) (Ok.at (by omega) h1 fun v2 hv2 hv2i=> ?_)
     have ev:v2=v:=by rw [hvi] at hv2i;exact (Option.some.inj hv2i).symm
     subst ev
     have hlen:=hg.len v2 hv
     have hms:=ms_succ (B:=B) h2
     refine Ok.bind (he v2.2.1 i j (w64 (dep+1)) pos (hg.rhs v2 hv) hlen hi hij hj (by omega) (by omega) (hb v2 hv) (by rw [hwd];omega)) ?_
     rintro _ ⟨b2,ns,rfl,hn1,hn2⟩
     have hb2:=hb v2 hv
     refine Ok.cond (fun _=>Ok.some (Or.inl rfl)) (fun eb=> ?_)
     have hbt2:b2=true:=by revert eb;cases b2<;>simp
     have hn3:=hn2 hbt2
     have hrk:=hr.rule v2 hv
     rw [hA] at hrk
     refine Ok.bind (l138_2 (dep:=dep) (i:=0) (g:=g) (ws:=ws) (c:=c) (ns:=ns) (x:=dep) (y:=(ri:Int)) (z:= -1) (by omega) k (by omega) pos pos) ?_
     rintro _ ⟨a',b',rfl⟩
     refine Ok.room (by show 1+ns.length≤_;omega) (by omega) (Ok.some (Or.inr ⟨[(dep,(ri:Int), -1,a',b',())]++ns,rfl,?_⟩))
     rw [List.length_append]
     show ((1+ns.length:Nat):Int)≤_
     omega
    ·exact Ok.tt (by simpa using hA) (Ok.some (Or.inl rfl))
   ·rintro _ (rfl | ⟨ns,rfl,hns⟩)
    ·refine Ok.some ⟨⟨ri+1,by omega,?_⟩,?_⟩
     ·show (A,i,j,dep,pos,w64 ((ri:Int)+1),g,ws,c,())=_
      rw [hw]
     ·show ((g.2.2.2.1.length:Int)-w64 ((ri:Int)+1)).toNat<((g.2.2.2.1.length:Int)-(ri:Int)).toNat
      rw [hw];omega
    ·exact Ok.some (Or.inr ⟨ns,rfl,hns⟩)
 ·rintro _ (rfl | ⟨ns,rfl,hns⟩)
  ·exact Ok.some ⟨[],rfl,by show ((0:Nat):Int)≤_;omega⟩
  ·exact Ok.some ⟨ns,rfl,hns⟩
end Go.Pi
namespace Go.Pi
set_option linter.unusedVariables false
set_option maxRecDepth 20000
theorem rowH_cons (h:List Nat) (x:Int) (r:List Int):rowH h (x::r)=(if x<0 then 0 else ((h.getD x.toNat 0:Nat):Int))+rowH h r:=by
 unfold rowH;rw [List.map_cons,List.sum_cons]
theorem rowT_cons (x:Int) (r:List Int):rowT (x::r)=(if x<0 then (1:Int) else 0)+rowT r:=by
 unfold rowT;rw [List.map_cons,List.sum_cons]
theorem rowH_nonneg (h:List Nat): ∀r:List Int,0≤rowH h r
 | []=>Int.le_refl _
 | x::r=>by
  rw [rowH_cons]
  have:=rowH_nonneg h r
  split<;>omega
theorem mul_step (c a b:Int):c*(a-(b+1))=c*(a-b)-c:=by
 rw [show a-(b+1)=(a-b)-1 by omega,Int.mul_sub,Int.mul_one]
theorem mul_split (c i j m:Int):c*(m-i)+c*(j-m)=c*(j-i):=by
 rw [← Int.mul_add,show m-i+(j-m)=j-i by omega]
theorem l140_1 {B:Nat} {g:GrT} {ws:List ItemT11} {c:Cube} {cc:Int} {h:List Nat} {e:E140} {d:Nat} (he:ESpec B g ws c cc h e d) (hg:GOk B g) (hr:Rk g cc h)
  (hc:CubeOk g.2.1.length ws.length c) {x:Int} {rest:List Int} (hx:0≤x) (hrow: ∀y∈x::rest, -(g.1.length:Int)≤y∧y<g.2.1.length) (hl:(x::rest).length<B)
  {i j dep pos:Int} (hi:0≤i) (hij:i≤j) (hj:j≤ws.length) (hd:0≤dep) (hd2:dep≤200) (hw:ws.length<99999)
  (hbd:cc*(j-i)+rowH h (x::rest)≤90000) (hb: ∀r∈g.2.2.2.1,cc*ws.length+rowH h r.2.1≤90000) (hm:ms B dep+rest.length<d) (k:Nat) (hk:B≤k) (hk2:100001<k) :
  Ok (iter k (g140_1 k e) (x::rest,i,j,dep,pos,x,i,g,ws,c,())) fun r=>r=Sum.inl (g,ws,c,()) ∨
   ∃b ns,r=Sum.inr (b,g,ws,c,ns,())∧(ns.length:Int)≤cc*(j-i)+rowH h (x::rest)∧(b=true→(ns.length:Int)≤cc*(j-i)+rowH h (x::rest)+rowT (x::rest)*(1-cc)):=by
 have hbig:=hg.big
 have hcl:=hc.len
 have hx2:=(hrow x List.mem_cons_self).2
 have hone:=hr.one
 have hrh:=rowH_cons h x rest
 have hrt:=rowT_cons x rest
 rw [if_neg (by omega)] at hrh hrt
 have hlc:(x::rest).length=rest.length+1:=rfl
 refine Ok.iter (fun p=> ∃m:Int,i≤m∧m≤j+1∧p=(x::rest,i,j,dep,pos,x,m,g,ws,c,())) (fun p=>(j+1-p.2.2.2.2.2.2.1).toNat) ?_ k _ ⟨i,by omega,by omega,rfl⟩ (by show (j+1-i).toNat<k;omega)
 rintro _ ⟨m,hm1,hm2,rfl⟩
 have hwm:w64 (m+1)=m+1:=w64_ok (by omega) (by omega)
 refine Ok.dec (p:=m≤j) (fun hmj=> ?_) (fun _=>Ok.some (Or.inl rfl))
 refine Ok.bind (Q:=fun p=> ∃b:Bool,p=(x::rest,i,j,dep,pos,x,m,b,g,ws,c,())) ?_ ?_
 ·refine Ok.at (by omega) (by omega) fun _ _ _=>Ok.get (by omega) fun _ _ _=>Ok.get (by omega) fun m1 q1 _=> ?_
  have r1:=hc.row m1 q1
  refine Ok.at (by omega) (by omega) fun _ _ _=>Ok.get (by omega) fun m2 q2 _=> ?_
  have r2:=hc.row m2 q2
  refine Ok.get (by omega) fun _ _ _=>Ok.get (by omega) fun m3 q3 _=> ?_
  have r3:=hc.row m3 q3
  refine Ok.get (by omega) fun s3 z3 _=> ?_
  have t3:=r3.2 s3 z3
  refine Ok.at (by omega) (by omega) fun _ _ _=>Ok.get (by omega) fun m4 q4 _=> ?_
  have r4:=hc.row m4 q4
  refine Ok.get (by omega) fun s4 z4 _=> ?_
  have t4:=r4.2 s4 z4
  refine Ok.get (by omega) fun b4 _ _=>Ok.cond (fun _=>Ok.some ⟨_,rfl⟩) (fun _=>Ok.hi (by omega) (by omega) ?_)
  refine Ok.bind (G139_ok (row:=rest) (g:=g) (ws:=ws) (start:=m) hc (fun y hy=>(hrow y (List.mem_cons_of_mem _ hy)).2) (by omega) (by omega) (by omega) (by omega) rfl k (by omega) (by omega)) ?_
  rintro _ ⟨bs,hbs,rfl⟩
  exact Ok.at (by omega) (by omega) fun _ _ _=>Ok.get (by omega) fun _ _ _=>Ok.some ⟨_,rfl⟩
 ·rintro _ ⟨b,rfl⟩
  refine Ok.cond (fun _=>Ok.some ⟨⟨m+1,by omega,by omega,?_⟩,?_⟩) (fun _=> ?_)
  ·show (x::rest,i,j,dep,pos,x,w64 (m+1),g,ws,c,())=_
   rw [hwm]
  ·show (j+1-w64 (m+1)).toNat<(j+1-m).toNat
   rw [hwm];omega
  ·have hsp:=mul_split cc i j m
   have hp1:0≤cc*(m-i):=Int.mul_nonneg (by omega) (by omega)
   have hp2:0≤cc*(j-m):=Int.mul_nonneg (by omega) (by omega)
   have hp3:cc*(m-i)≤cc*ws.length:=Int.mul_le_mul_of_nonneg_left (by omega) (by omega)
   have hrn:=rowH_nonneg h rest
   refine Ok.bind (Q:=fun p=> ∃pos2:Int,p=(x::rest,i,j,dep,pos,x,m,pos2,g,ws,c,())) ?_ ?_
   ·refine Ok.dec (p:=m>i) (fun hgt=> ?_) (fun _=>Ok.some ⟨_,rfl⟩)
    have hwm1:w64 (m-1)=m-1:=w64_ok (by omega) (by omega)
    exact Ok.at (by omega) (by omega) fun _ _ _=>Ok.some ⟨_,rfl⟩
   ·rintro _ ⟨pos2,rfl⟩
    refine Ok.hi (by omega) (by omega) ?_
    refine Ok.bind (he rest m j dep pos2 (fun y hy=>hrow y (List.mem_cons_of_mem _ hy)) (by omega) (by omega) hmj hj hd hd2 (by omega) hm) ?_
    rintro _ ⟨b1,n1,rfl,u1,u2⟩
    refine Ok.bind (G138R_ok (A:=x) (i:=i) (j:=m) (dep:=dep) (pos:=pos) he hg hr hi hm1 (by omega) hd hd2 hp1 (fun r hr=>by have:=hb r hr;omega) (by omega) k hk (by omega)) ?_
    rintro _ ⟨n2,rfl,u3⟩
    have hla:(n2++n1).length=n2.length+n1.length:=List.length_append
    refine Ok.room (by omega) (by omega) (Ok.some (Or.inr ⟨b1,n2++n1,rfl,by omega,fun eb=> ?_⟩))
    have:=u2 eb
    have e0:(0+rowT rest)*(1-cc)=rowT rest*(1-cc):=by rw [Int.zero_add]
    rw [hrt,e0]
    omega
end Go.Pi
namespace Go.Pi
set_option linter.unusedVariables false
set_option maxRecDepth 20000
theorem G140R_ok {B:Nat} {g:GrT} {ws:List ItemT11} {c:Cube} {cc:Int} {h:List Nat} {e:E140} {d:Nat} (he:ESpec B g ws c cc h e d) (hg:GOk B g) (hr:Rk g cc h)
  (hc:CubeOk g.2.1.length ws.length c) (hw:ws.length<99999) (hb: ∀r∈g.2.2.2.1,cc*ws.length+rowH h r.2.1≤90000) (k:Nat) (hk:B≤k) (hk2:100001<k) :
  ESpec B g ws c cc h (G140R k e) (d+1):=by
 intro row i j dep pos hrow hl hi hij hj hd hd2 hbd hm
 have hone:=hr.one
 have hp:0≤cc*(j-i):=Int.mul_nonneg (by omega) (by omega)
 match row,hrow,hl,hbd,hm with
 | [],_,_,_,_=>
  have e0:G140R k e ([],i,j,dep,pos,g,ws,c,())=some (i==j,g,ws,c,[],()):=rfl
  rw [e0]
  refine (Ok.some ⟨_,[],rfl,by show (0:Int)≤cc*(j-i)+0;omega,fun _=>by show (0:Int)≤cc*(j-i)+0+0*(1-cc);rw [Int.zero_mul];omega⟩)
 | x::rest,hrow,hl,hbd,hm=>
  have hbig:=hg.big
  have hlc:(x::rest).length=rest.length+1:=rfl
  have hrh:=rowH_cons h x rest
  have hrt:=rowT_cons x rest
  have hrn:=rowH_nonneg h rest
  have hstep:=mul_step cc j i
  have hne:(((x::rest).length:Int)==0)=false:=by rw [beq_eq_false_iff_ne];omega
  show Ok (bif (((x::rest).length:Int)==0) then some (i==j,g,ws,c,[],()) else _) _
  rw [hne]
  simp only [cond_false]
  refine Ok.at (l:=x::rest) (z:=0) (by omega) (by omega) fun x' _ hx'=> ?_
  have ex:x'=x:=(Option.some.inj hx').symm
  subst ex
  refine Ok.bind (Q:=fun r=>(∃b ns,r=Sum.inl (b,g,ws,c,ns,())∧(ns.length:Int)≤cc*(j-i)+rowH h (x'::rest)∧(b=true→(ns.length:Int)≤cc*(j-i)+rowH h (x'::rest)+rowT (x'::rest)*(1-cc)))∨(0≤x'∧r=Sum.inr (x'::rest,i,j,dep,pos,x',g,ws,c,()))) ?_ ?_
  ·refine Ok.dec (p:=x'<0) (fun hneg=> ?_) (fun hnn=>Ok.some (Or.inr ⟨by omega,rfl⟩))
   rw [if_pos hneg] at hrh hrt
   refine Ok.bind (Q:=fun p=> ∃b:Bool,(b=false→i<j)∧p=(x'::rest,i,j,dep,x',b,g,ws,c,())) ?_ ?_
   ·refine Ok.dec (p:=i≥j) (fun _=>Ok.some ⟨true,(fun e=>nomatch e),rfl⟩) (fun hlt=> ?_)
    have hwi:w64 (i+1)=i+1:=w64_ok (by omega) (by omega)
    refine Ok.at hi (by omega) fun w _ _=>Ok.cond (fun _=>Ok.some ⟨true,(fun e=>nomatch e),rfl⟩) (fun _=>Ok.hi (by omega) (by omega) ?_)
    refine Ok.bind (G139_ok (row:=rest) (g:=g) (ws:=ws) (start:=w64 (i+1)) hc (fun y hy=>(hrow y (List.mem_cons_of_mem _ hy)).2) (by omega) (by omega) (by omega) (by omega) rfl k (by omega) (by omega)) ?_
    rintro _ ⟨bs,hbs,rfl⟩
    exact Ok.at (by omega) (by show j<(bs.length:Int);omega) fun _ _ _=>Ok.get (by show j.toNat<bs.length;omega) fun _ _ _=>Ok.some ⟨_,fun _=>(by omega),rfl⟩
   ·rintro _ ⟨b,hbf,rfl⟩
    refine Ok.cond (fun _=>Ok.some (Or.inl ⟨false,[],rfl,by show (0:Int)≤_;omega,(fun e=>nomatch e)⟩)) (fun eb=> ?_)
    have hlt:=hbf eb
    have hwi:w64 (i+1)=i+1:=w64_ok (by omega) (by omega)
    refine Ok.hi (by omega) (by show (1:Int)≤((x'::rest).length:Nat);omega) (Ok.at hi (by show i<(ws.length:Int);omega) fun w _ _=> ?_)
    refine Ok.bind (he rest (w64 (i+1)) j dep w.2.2.1 (fun y hy=>hrow y (List.mem_cons_of_mem _ hy)) (by omega) (by omega) (by omega) hj hd hd2 (by rw [hwi,hstep];omega) (by omega)) ?_
    rintro _ ⟨b1,n1,rfl,u1,u2⟩
    rw [hwi,hstep] at u1 u2
    refine Ok.at hi (by show i<(ws.length:Int);omega) fun w2 _ _=>Ok.at hi (by show i<(ws.length:Int);omega) fun w3 _ _=> ?_
    refine Ok.room (by show 1+n1.length≤_;omega) (by omega) (Ok.some (Or.inl ⟨b1,_,rfl,?_,fun eb1=> ?_⟩))
    ·rw [List.length_append];show ((1+n1.length:Nat):Int)≤_;omega
    ·have:=u2 eb1
     have e1:(1+rowT rest)*(1-cc)=(1-cc)+rowT rest*(1-cc):=by rw [Int.add_mul,Int.one_mul]
     rw [List.length_append,hrt,e1];show ((1+n1.length:Nat):Int)≤_;omega
  ·rintro _ (⟨b,ns,rfl,u1,u2⟩ | ⟨hnn,rfl⟩)
   ·exact Ok.some ⟨b,ns,rfl,u1,u2⟩
   ·refine Ok.bind (l140_1 (pos:=pos) he hg hr hc hnn hrow hl hi hij hj hd hd2 hw hbd hb (by omega) k hk hk2) ?_
    rintro _ (rfl | ⟨b,ns,rfl,u1,u2⟩)
    ·have:=rowH_nonneg h (x'::rest)
     exact Ok.some ⟨false,[],rfl,by show (0:Int)≤_;omega,(fun e=>nomatch e)⟩
    ·exact Ok.some ⟨b,ns,rfl,u1,u2⟩
end Go.Pi
namespace Go.Pi
set_option linter.unusedVariables false
theorem P140_ok {B:Nat} {g:GrT} {ws:List ItemT11} {c:Cube} {cc:Int} {h:List Nat} (hg:GOk B g) (hr:Rk g cc h)
  (hc:CubeOk g.2.1.length ws.length c) (hw:ws.length<99999) (hb: ∀r∈g.2.2.2.1,cc*ws.length+rowH h r.2.1≤90000) (k:Nat) (hk:B≤k) (hk2:100001<k) :
  ∀d:Nat,ESpec B g ws c cc h (P140 k d).1 d
 | 0=>fun row i j dep pos _ _ _ _ _ _ _ _ hm=>absurd hm (Nat.not_lt_zero _)
 | d+1=>G140R_ok (P140_ok hg hr hc hw hb k hk hk2 d) hg hr hc hw hb k hk hk2
end Go.Pi
namespace Go.Pi
set_option linter.unusedVariables false
set_option maxRecDepth 20000
def chkO (B:Nat) (g:GrT):Bool:=
 (decide (g.2.1.length≤20)&&(decide (g.2.2.2.1.length<B)&&g.2.2.2.1.all (fun r=>decide (r.2.1.length<B))))&&decide (g.2.2.2.2.2.2.1≤50)
def chkR (cc:Int) (h:List Nat) (g:GrT):Bool:=g.2.2.2.1.all fun r=>decide (1+rowH h r.2.1+rowT r.2.1*(1-cc)≤((h.getD r.1.toNat 0:Nat):Int))&&decide (rowH h r.2.1≤1000)
def rkOf (g:GrT):Bool:= [[0,1],[1,0],[0,1,0,0,1],[0]].any fun h=>chkR 5 h g
structure Gv (g:GrT):Prop where
 giv:Given g
 gok:GOk 100 g
 rk: ∃h:List Nat,Rk g 5 h∧(∀r∈g.2.2.2.1,rowH h r.2.1≤1000)∧h.getD 0 0≤1
 nr:g.2.1.length≤20
 most0:0≤g.2.2.2.2.2.2.1
 most:g.2.2.2.2.2.2.1≤50
theorem grs_O:grs.all (fun g=>chkO 100 g&&rkOf g)=true:=by kernel_rfl
theorem Gv.of {g:GrT} (h:Given g) (hm:g∈grs):Gv g:=by
 have h1:=List.all_eq_true.1 grs_O g hm
 have h2:=h.chk
 simp only [Bool.and_eq_true,chkO,chkG,rkOf,chkR,decide_eq_true_eq,List.all_eq_true,List.any_eq_true,inR] at h1 h2
 obtain ⟨⟨⟨a1,a2,a3⟩,a4⟩,hh,hm,a5⟩:=h1
 obtain ⟨b1,b2,b3⟩:=h2
 refine ⟨h,⟨b1,by omega,by omega,a2,fun r hr=>(b3 r hr).1,fun r hr=>(b3 r hr).2,a3⟩,⟨hh,⟨by omega,fun r hr=>(a5 r hr).1⟩,fun r hr=>(a5 r hr).2,?_⟩,a1,b2,a4⟩
 simp only [List.mem_cons,List.not_mem_nil,or_false] at hm
 rcases hm with rfl | rfl | rfl | rfl<;>decide
theorem G135_ok {g:GrT} (hg:Gv g) {ws:List ItemT11} (hw:ws.length≤50) (pos:Int) :
  Ok (G135 K0 (g,ws,pos,())) fun r=>0≤r.2.1∧r.2.1≤ws.length∧r.1.length≤300:=by
 obtain ⟨h,hr,hr2,h0⟩:=hg.rk
 have hgo:=hg.gok
 have hnr:=hg.nr
 have hpos:=hgo.pos
 have hsq:(ws.length+1)*(ws.length+1)≤51*51:=Nat.mul_le_mul (by omega) (by omega)
 have hcu:g.2.1.length*((ws.length+1)*(ws.length+1))≤20*(51*51):=Nat.mul_le_mul hnr hsq
 refine Ok.bind (G137_ok (ws:=ws) hgo (by omega) K0 (by show _<200000;omega) (by decide) (by show _<200000;omega)) ?_
 rintro _ ⟨c,hc,rfl⟩
 refine Ok.bind (Q:=fun r=>r=Sum.inl () ∨ ∃(m:Int) (ns:List NodeT17),r=Sum.inr (m,ns,())∧0≤m∧m≤ws.length∧ns.length≤300) ?_ ?_
 ·refine Ok.iter (fun p=> ∃m:Nat,m≤ws.length∧p=(pos,(m:Int),g,ws,c,())) (fun p=>p.2.1.toNat) ?_ K0 _ ⟨ws.length,Nat.le_refl _,rfl⟩ (by show ((ws.length:Nat):Int).toNat<200000;omega)
  rintro _ ⟨m,hm,rfl⟩
  refine Ok.dec (p:=(m:Int)>0) (fun hgt=> ?_) (fun _=>Ok.some (Or.inl rfl))
  have hcl:=hc.len
  refine Ok.at (by omega) (by omega) fun _ _ _=>Ok.get (by omega) fun _ _ _=>Ok.get (by omega) fun m1 q1 _=> ?_
  have r1:=hc.row m1 q1
  refine Ok.at (by omega) (by omega) fun _ _ _=>Ok.get (by omega) fun m2 q2 _=> ?_
  have r2:=hc.row m2 q2
  refine Ok.get (by omega) fun _ _ _=>Ok.get (by omega) fun m3 q3 _=> ?_
  have r3:=hc.row m3 q3
  refine Ok.get (by omega) fun s3 z3 _=> ?_
  have t3:=r3.2 s3 z3
  refine Ok.at (by omega) (by omega) fun _ _ _=>Ok.get (by omega) fun m4 q4 _=> ?_
  have r4:=hc.row m4 q4
  refine Ok.get (by omega) fun s4 z4 _=> ?_
  have t4:=r4.2 s4 z4
  refine Ok.get (by omega) fun b4 _ _=>Ok.cond (fun _=> ?_) (fun _=> ?_)
  ·have hP:=P140_ok (k:=K0) hgo hr hc (by omega) (fun r hx=>by have:=hr2 r hx;omega) (by decide) (by decide) K0
   refine Ok.bind (G138R_ok (A:=0) (i:=0) (j:=(m:Int)) (dep:=0) (pos:=pos) hP hgo hr (by omega) (by omega) (by omega) (by omega) (by omega) (by omega) (fun r hx=>by have:=hr2 r hx;omega) (by decide) K0 (by decide) (by decide)) ?_
   rintro _ ⟨ns,rfl,hns⟩
   refine Ok.some (Or.inr ⟨m,ns,rfl,by omega,by omega,?_⟩)
   have h0':h.getD (Int.toNat 0) 0≤1:=h0
   omega
  ·have hw:w64 ((m:Int)-1)=((m-1:Nat):Int):=by rw [w64_ok (by omega) (by omega)];omega
   refine Ok.some ⟨⟨m-1,by omega,?_⟩,?_⟩
   ·show (pos,w64 ((m:Int)-1),g,ws,c,())=_
    rw [hw]
   ·show (w64 ((m:Int)-1)).toNat<((m:Int)).toNat
    rw [hw];omega
 ·rintro _ (rfl | ⟨m,ns,rfl,u1,u2,u3⟩)
  ·exact Ok.some ⟨Int.le_refl _,by show (0:Int)≤_;omega,by decide⟩
  ·exact Ok.some ⟨u1,u2,u3⟩
theorem min_eq (a b:Int):(if (false=true) then (if a>b then a else b) else (if a<b then a else b))=min a b:=by
 rw [if_neg (by decide)];omega
theorem G132_ok {g:GrT} (hg:Gv g) {d:DfaT6} (hd:DfaOk g.1.length d) (hn:d.2.1.length<100000) {bs:List Int} (hb: ∀x∈bs,0≤x∧x<256) (hl:bs.length<10000) :
  Ok (G132 K0 (g,d,bs,())) fun r=>0≤r.2.1∧r.2.1≤bs.length∧r.1.length≤300:=by
 have hm0:=hg.most0
 have hm:=hg.most
 have hmin:=min_eq g.2.2.2.2.2.2.1 (bs.length:Int)
 have hnil:Ok (some (([]:List NodeT17),(0:Int),())) fun r=>0≤r.2.1∧r.2.1≤bs.length∧r.1.length≤300:=
  Ok.some ⟨Int.le_refl _,by show (0:Int)≤_;omega,by decide⟩
 refine Ok.hi (by rw [hmin];omega) (by rw [hmin];omega) ?_
 rw [hmin]
 have hts:slC Option.none (Option.some (min g.2.2.2.2.2.2.1 (bs.length:Int))) 0 (min g.2.2.2.2.2.2.1 (bs.length:Int)).toNat bs=bs.take (min g.2.2.2.2.2.2.1 (bs.length:Int)).toNat:=rfl
 rw [hts]
 have htl:(bs.take (min g.2.2.2.2.2.2.1 (bs.length:Int)).toNat).length≤50:=by rw [List.length_take];omega
 have htl2:(bs.take (min g.2.2.2.2.2.2.1 (bs.length:Int)).toNat).length≤bs.length:=by rw [List.length_take];omega
 have htb: ∀x∈bs.take (min g.2.2.2.2.2.2.1 (bs.length:Int)).toNat,0≤x∧x<256:=fun x hx=>hb x (List.mem_of_mem_take hx)
 generalize bs.take (min g.2.2.2.2.2.2.1 (bs.length:Int)).toNat=ts at htl htl2 htb ⊢
 refine Ok.bind (G133_ok hd htb (by omega) (k:=K0) (by show _<200000;omega) (by omega)) ?_
 rintro ⟨ws,u⟩ ⟨hws,hwl⟩
 have hwl':ws.length≤ts.length:=hwl
 refine Ok.bind (Q:=fun p=> ∃b,p=(b,g,ws,())) ?_ ?_
 ·refine Ok.cond (fun _=>Ok.some ⟨true,rfl⟩) (fun e=> ?_)
  have e2:(ws.length:Int)≠0:=beq_eq_false_iff_ne.1 e
  refine Ok.at (by omega) (by omega) fun _ _ _=>Ok.get (by show Int.toNat 0<ws.length;omega) fun v hv _=> ?_
  have hv2:=hws.at' v hv
  exact Ok.at hv2.1 hv2.2.1 fun _ _ _=>Ok.some ⟨_,rfl⟩
 ·rintro _ ⟨b,rfl⟩
  refine Ok.cond (fun _=>hnil) (fun _=> ?_)
  refine Ok.bind (G134_ok (g:=g) hws (by omega) (k:=K0) (by show _<200000;omega)) ?_
  rintro ⟨vs,u⟩ hsub
  have hvl:vs.length≤ws.length:=List.Sublist.length_le hsub
  refine Ok.bind (G135_ok hg (ws:=vs) (by omega) 0) ?_
  rintro ⟨ns,m,u⟩ ⟨h1,h2,h3⟩
  refine Ok.cond (fun _=>hnil) (fun e=> ?_)
  have h1':0≤m:=h1
  have h2':m≤vs.length:=h2
  have e2:m≠0:=beq_eq_false_iff_ne.1 e
  have hw:w64 (m-1)=m-1:=w64_ok (by omega) (by omega)
  refine Ok.at (by rw [hw];omega) (by rw [hw];omega) fun _ _ _=>Ok.get (by rw [hw];omega) fun v hv _=> ?_
  have hv2:=hws.at' v (List.Sublist.subset hsub hv)
  exact Ok.some ⟨by show 0≤v.2.2.1;omega,by show v.2.2.1≤_;omega,h3⟩
def TOk (ns:List NodeT17):Prop:=ns.length≤300∧ ∀x∈ns,w64 x.2.2.2.1=x.2.2.2.1∧w64 x.2.2.2.2.1=x.2.2.2.2.1
def mvN (b:Int) (v:NodeT17):NodeT17:=(v.1,v.2.1,v.2.2.1,w64 (v.2.2.2.1+b),w64 (v.2.2.2.2.1+b),())
theorem G131_eq (ns:List NodeT17) (b:Int) (hl:ns.length<100000) (k:Nat) (hk:ns.length<k):G131 k (ns,b,())=some (ns.map (mvN b),()):=by
 have key:Ok (G131 k (ns,b,())) fun r=>r=(ns.map (mvN b),()):=by
  refine Ok.bind (Q:=fun (r:List NodeT17×Unit)=>r=(ns.map (mvN b),())) ?_ ?_
  ·refine Ok.iter (fun p=> ∃(i:Nat),i≤ns.length∧p=(ns,b,(i:Int),(ns.take i).map (mvN b),()))
    (fun p=>((ns.length:Int)-p.2.2.1).toNat) ?_ k _ ⟨0,by omega,rfl⟩ (by show ((ns.length:Int)-0).toNat<k;omega)
   rintro _ ⟨i,hi,rfl⟩
   have hw:w64 ((i:Int)+1)=((i+1:Nat):Int):=by rw [w64_ok (by omega) (by omega)];rfl
   refine Ok.dec (p:=(i:Int)<(ns.length:Int)) (fun hlt=> ?_) (fun hge=>Ok.some ?_)
   ·refine Ok.at (by omega) hlt fun v _ hv=> ?_
    have hv':ns[i]? = some v:=hv
    have hlen:((ns.take i).map (mvN b)).length=i:=by rw [List.length_map,List.length_take];omega
    refine Ok.room (by rw [hlen];show i+1≤_;omega) (by omega) (Ok.some ⟨⟨i+1,by omega,?_⟩,?_⟩)
    ·show (ns,b,w64 ((i:Int)+1),(ns.take i).map (mvN b) ++ [mvN b v],())=_
     rw [hw,List.take_add_one,hv',List.map_append];rfl
    ·show ((ns.length:Int)-w64 ((i:Int)+1)).toNat<((ns.length:Int)-(i:Int)).toNat
     rw [hw];omega
   ·have e:i=ns.length:=by omega
    subst e
    rw [List.take_length]
  ·rintro _ rfl
   exact Ok.some rfl
 obtain ⟨r,h1,h2⟩:=key
 rw [h1,h2]
theorem w64_in (z:Int): -9223372036854775808≤w64 z∧w64 z<9223372036854775808:=by
 have e:w64 z=if z % 18446744073709551616≥9223372036854775808 then z % 18446744073709551616-18446744073709551616 else z % 18446744073709551616:=by
  unfold w64
  simp [IntKind.wrap,IntKind.bits,IntKind.signed]
 rw [e]
 split<;>omega
theorem w64_w64 (z:Int):w64 (w64 z)=w64 z:=w64_ok (w64_in z).1 (w64_in z).2
theorem TOk.mv {ns:List NodeT17} (h:ns.length≤300) (b:Int):TOk (ns.map (mvN b)):=by
 refine ⟨by rw [List.length_map];exact h,fun x hx=> ?_⟩
 obtain ⟨v,hv,rfl⟩:=List.mem_map.1 hx
 exact ⟨w64_w64 _,w64_w64 _⟩
def Row:Int→Int→List SpanT18→Prop
 | a,b,[]=>a=b
 | a,b,s::l=>s.1=a∧a<s.2.1∧Row s.2.1 b l
theorem Row.append {b c:Int} {m:List SpanT18} (hm:Row b c m): ∀ {a:Int} {l:List SpanT18},Row a b l→Row a c (l++m)
 | _,[],h=>by have h':_=b:=h;subst h';exact hm
 | _,s::l,h=>⟨h.1,h.2.1,Row.append hm h.2.2⟩
theorem Row.len: ∀ {a b:Int} {l:List SpanT18},Row a b l→(l.length:Int)≤b-a
 | a,b,[],h=>by have h':a=b:=h;show (0:Int)≤_;omega
 | a,b,s::l,h=>by
  have:=Row.len h.2.2
  have h2:=h.2.1
  show ((l.length+1:Nat):Int)≤_
  omega
structure SpOk (n:Int) (ss:List SpanT18):Prop where
 row:Row 0 n ss
 tree: ∀s∈ss,TOk s.2.2.1
theorem SpOk.push {n m:Int} {ss:List SpanT18} (h:SpOk n ss) (hm:n<m) {ns:List NodeT17} (hn:TOk ns):SpOk m (ss ++ [(n,m,ns,())]):=by
 have h1:Row n m [(n,m,ns,())]:=⟨rfl,hm,rfl⟩
 refine ⟨Row.append h1 h.row,fun s hs=> ?_⟩
 rcases List.mem_append.1 hs with hs | hs
 ·exact h.tree s hs
 ·have e:=List.mem_singleton.1 hs
  subst e
  exact hn
theorem TOk.nil:TOk []:=⟨Nat.zero_le _,fun x hx=>nomatch hx⟩
theorem Gv.dfa {g:GrT} (hg:Gv g): ∃d u,G25 K0 (g.1,())=some (d,u)∧DfaOk g.1.length d∧d.2.1.length<100000:=by
 have h:=hg.giv.dfa
 unfold dfaOf at h
 match e:G25 K0 (g.1,()),h with
 | some (d,x,u),h=>
  simp only [Bool.and_eq_true,decide_eq_true_eq] at h
  exact ⟨d,(x,u),rfl,chkD_ok h.2.1,h.2.2⟩
theorem G128_ok {g:GrT} (hg:Gv g) {bs:List Int} (hb: ∀x∈bs,0≤x∧x<256) (hl:bs.length<10000) :
  Ok (G128 K0 (g,bs,0,())) fun r=>SpOk bs.length r.1:=by
 obtain ⟨d,⟨x,u⟩,he,hd,hn⟩:=hg.dfa
 refine Ok.eq he ?_
 refine Ok.bind (Q:=fun r=>SpOk bs.length r.1) ?_ ?_
 ·refine Ok.iter (fun p=> ∃(i:Nat) (ss:List SpanT18),i≤bs.length∧SpOk i ss∧p=(bs,0,(i:Int),g,ss,d,()))
   (fun p=>((bs.length:Int)-p.2.2.1).toNat) ?_ K0 _ ⟨0,[],by omega,⟨rfl,fun s hs=>nomatch hs⟩,rfl⟩ (by show ((bs.length:Int)-0).toNat<200000;omega)
  rintro _ ⟨i,ss,hi,hss,rfl⟩
  have hlen:=hss.row.len
  have hw0:w64 (0+(i:Int))=(i:Int):=by rw [Int.zero_add];exact w64_ok (by omega) (by omega)
  have hw:w64 ((i:Int)+1)=((i+1:Nat):Int):=by rw [w64_ok (by omega) (by omega)];rfl
  refine Ok.dec (p:=(i:Int)<(bs.length:Int)) (fun hlt=> ?_) (fun hge=>Ok.some ?_)
  ·refine Ok.bind (Q:=fun p=> ∃(j:Nat) (ss:List SpanT18),i<j∧j≤bs.length∧SpOk j ss∧p=(bs,0,(j:Int),g,ss,d,())) ?_ ?_
   ·refine Ok.hi (by omega) (by omega) ?_
    have hdl:(slC (some (i:Int)) none (Int.toNat (i:Int)) bs.length bs).length=bs.length-i:=by
     show (bs.drop i).length=_
     rw [List.length_drop]
    refine Ok.bind (G132_ok hg hd hn (bs:=slC (some (i:Int)) none (Int.toNat (i:Int)) bs.length bs) (fun x hx=>hb x (List.mem_of_mem_drop (i:=i) hx)) (by omega)) ?_
    rintro ⟨ns,m,u⟩ ⟨h1,h2,h3⟩
    rw [hdl] at h2
    have h1':0≤m:=h1
    have h2':m≤((bs.length-i:Nat):Int):=h2
    have h3':ns.length≤300:=h3
    refine Ok.cond (fun _=> ?_) (fun e=> ?_)
    ·refine Ok.room (by show ss.length+1≤_;omega) (by omega) (Ok.some ⟨i+1,ss ++ [((i:Int),((i+1:Nat):Int),[],())],by omega,by omega,hss.push (by omega) TOk.nil,?_⟩)
     rw [hw0,hw]
    ·have e2:m≠0:=beq_eq_false_iff_ne.1 e
     refine Ok.eq (G131_eq ns _ (by omega) K0 (by show _<200000;omega)) ?_
     have hwm:w64 ((i:Int)+m)=((i+m.toNat:Nat):Int):=by rw [w64_ok (by omega) (by omega)];omega
     refine Ok.room (by show ss.length+1≤_;omega) (by omega) (Ok.some ⟨i+m.toNat,ss ++ [((i:Int),((i+m.toNat:Nat):Int),ns.map (mvN (i:Int)),())],by omega,by omega,hss.push (by omega) (TOk.mv h3 _),?_⟩)
     rw [hw0,hwm]
   ·rintro _ ⟨j,ss2,hj,hj2,hs2,rfl⟩
    refine Ok.some ⟨⟨j,ss2,hj2,hs2,rfl⟩,?_⟩
    show ((bs.length:Int)-(j:Int)).toNat<((bs.length:Int)-(i:Int)).toNat
    omega
  ·have e:i=bs.length:=by omega
   subst e
   exact hss
 ·rintro ⟨ss,u⟩ h
  exact Ok.some h
theorem G117_ok {a:Int} {tx:List Int} (ha:0≤a) (ha2:a<256) (htx: ∀x∈tx,0≤x∧x<256) (hl:tx.length≤14) :
  Ok (G117 K0 (a,tx,())) fun r=> ∃(n:Nat) (ss:List SpanT18),n≤280∧SpOk n ss∧r=(ss,(n:Int),()):=by
 refine Ok.bind (G127_ok ha ha2 htx (by omega) K0 (by show _<200000;omega)) ?_
 rintro ⟨bs,u⟩ ⟨hb,hbl⟩
 have hbl':bs.length≤20*tx.length:=hbl
 obtain ⟨g,hm,hg,he⟩:=G12_K0 a.toNat (by omega)
 rw [Int.toNat_of_nonneg ha] at he
 refine Ok.eq he ?_
 refine Ok.bind (G128_ok (Gv.of hg hm) hb (by omega)) ?_
 rintro ⟨ss,u⟩ hs
 exact Ok.some ⟨bs.length,ss,by omega,hs,rfl⟩
end Go.Pi
namespace Go.Pi
set_option linter.unusedVariables false
section
variable {τ:Type}
abbrev Sp (τ:Type):=Int×Int×List τ×Unit
def wetS (s:Sp τ):Bool:=s.2.2.1.isEmpty
def mg (a b:Sp τ):Bool:=wetS a&&(wetS b&&a.2.1==b.1)
def jn (a b:Sp τ):Sp τ:=(a.1,b.2.1,a.2.2.1,())
def consM (s:Sp τ):List (Sp τ)→List (Sp τ)
 | []=> [s]
 | x::l=>bif mg s x then jn s x::l else s::x::l
def mergeR:List (Sp τ)→List (Sp τ)
 | []=> []
 | s::l=>consM s (mergeR l)
theorem mg_jn_l {a b c:Sp τ} (h:mg a b=true):mg (jn a b) c=mg b c:=by
 unfold mg at h ⊢
 simp only [Bool.and_eq_true] at h
 have h1:wetS (jn a b)=true:=h.1
 rw [h1,h.2.1]
 rfl
theorem mg_jn_r {a b c:Sp τ} (h:mg b c=true):mg a (jn b c)=mg a b:=by
 unfold mg at h ⊢
 simp only [Bool.and_eq_true] at h
 have h1:wetS (jn b c)=true:=h.1
 rw [h1,h.1]
 rfl
theorem consM_jn {s x:Sp τ} (h:mg s x=true): ∀Z:List (Sp τ),consM s (consM x Z)=consM (jn s x) Z
 | []=>by
  show (bif mg s x then [jn s x] else [s,x])= [jn s x]
  rw [h];rfl
 | z::l=>by
  show consM s (bif mg x z then jn x z::l else x::z::l)=bif mg (jn s x) z then jn (jn s x) z::l else jn s x::z::l
  rw [mg_jn_l h]
  cases hz:mg x z with
  | true=>
   show (bif mg s (jn x z) then jn s (jn x z)::l else s::jn x z::l)=jn (jn s x) z::l
   rw [mg_jn_r hz,h];rfl
  | false=>
   show (bif mg s x then jn s x::z::l else s::x::z::l)=jn s x::z::l
   rw [h];rfl
theorem foldr_consM (Y:List (Sp τ)) (s:Sp τ): ∀L:List (Sp τ),(consM s L).foldr consM Y=consM s (L.foldr consM Y)
 | []=>rfl
 | x::l=>by
  show (bif mg s x then jn s x::l else s::x::l).foldr consM Y=consM s (consM x (l.foldr consM Y))
  cases h:mg s x with
  | true=>exact (consM_jn h _).symm
  | false=>rfl
theorem foldr_mergeR (Y:List (Sp τ)): ∀A:List (Sp τ),(mergeR A).foldr consM Y=A.foldr consM Y
 | []=>rfl
 | s::A=>by
  show (consM s (mergeR A)).foldr consM Y=consM s (A.foldr consM Y)
  rw [foldr_consM,foldr_mergeR Y A]
theorem mergeR_foldr: ∀A:List (Sp τ),mergeR A=A.foldr consM []
 | []=>rfl
 | s::A=>congrArg (consM s) (mergeR_foldr A)
theorem mergeR_append (A B:List (Sp τ)):mergeR (A++B)=A.foldr consM (mergeR B):=by
 rw [mergeR_foldr,List.foldr_append, ← mergeR_foldr]
def stepM (out:List (Sp τ)) (s:Sp τ):List (Sp τ):=match out with
 | []=> [s]
 | [x]=>bif mg x s then [jn x s] else [x,s]
 | x::y::l=>x::stepM (y::l) s
def NormM:List (Sp τ)→Prop
 | []=>True
 | [_]=>True
 | x::y::l=>mg x y=false∧NormM (y::l)
theorem stepM_head (s y:Sp τ) (l:List (Sp τ)): ∃z m,stepM (y::l) s=z::m∧ ∀x,mg x z=mg x y:=by
 cases l with
 | nil=>
  show ∃z m,(bif mg y s then [jn y s] else [y,s])=z::m∧_
  cases h:mg y s with
  | true=>exact ⟨_,_,rfl,fun x=>mg_jn_r h⟩
  | false=>exact ⟨_,_,rfl,fun x=>rfl⟩
 | cons a l=>exact ⟨y,_,rfl,fun x=>rfl⟩
theorem stepM_foldr (s:Sp τ): ∀ {out:List (Sp τ)},NormM out→stepM out s=out.foldr consM [s]
 | [],_=>rfl
 | [x],_=>rfl
 | x::y::l,h=>by
  show x::stepM (y::l) s=consM x ((y::l).foldr consM [s])
  rw [← stepM_foldr s h.2]
  obtain ⟨z,m,e,k⟩:=stepM_head s y l
  rw [e]
  show x::z::m=bif mg x z then jn x z::m else x::z::m
  rw [k,h.1];rfl
theorem norm_consM (s:Sp τ): ∀ {L:List (Sp τ)},NormM L→NormM (consM s L)
 | [],_=>trivial
 | x::l,h=>by
  show NormM (bif mg s x then jn s x::l else s::x::l)
  cases e:mg s x with
  | false=>exact ⟨e,h⟩
  | true=>
   cases l with
   | nil=>trivial
   | cons y l=>exact ⟨by rw [mg_jn_l e];exact h.1,h.2⟩
theorem norm_mergeR: ∀A:List (Sp τ),NormM (mergeR A)
 | []=>trivial
 | s::A=>norm_consM s (norm_mergeR A)
theorem stepM_merge (A:List (Sp τ)) (s:Sp τ):stepM (mergeR A) s=mergeR (A ++ [s]):=by
 rw [stepM_foldr s (norm_mergeR A),foldr_mergeR,mergeR_append];rfl
end
end Go.Pi
namespace Go.Pi
set_option linter.unusedVariables false
set_option maxRecDepth 20000
theorem Ok.atV {α β:Type} {l:List α} {z:Int} {v:α} {f:α→Option β} {R:β→Prop} (h0:0≤z) (h:l[z.toNat]? = Option.some v) (k:Ok (f v) R):Ok ((at? l z).bind f) R:=by
 have e:at? l z=Option.some v:=by unfold at?;rw [if_pos h0];exact h
 exact Ok.eq e k
theorem Ok.getV {α β:Type} {l:List α} {z:Nat} {v:α} {f:α→Option β} {R:β→Prop} (h:l[z]? = Option.some v) (k:Ok (f v) R):Ok ((List.get?Internal l z).bind f) R:=by
 have e:List.get?Internal l z=l[z]? := rfl
 exact Ok.eq (e.trans h) k
theorem Ok.val {α:Type} {m:Option α} {a:α} (h:Ok m fun r=>r=a):m=Option.some a:=by
 obtain ⟨r,h1,h2⟩:=h
 rw [h1,h2]
theorem wet_eq (s:SpanT18):(((s.2.2.1.length:Int)==(0:Int)):Bool)=wetS s:=by
 unfold wetS
 cases s.2.2.1 with
 | nil=>rfl
 | cons a l=>rw [List.isEmpty_cons,beq_eq_false_iff_ne,List.length_cons];omega
theorem G129_eq (k:Nat) (s:SpanT18):G129 k (s,())=some (wetS s,()):=by
 show some (((s.2.2.1.length:Int)==(0:Int)),())=_
 rw [wet_eq]
theorem stepM_snoc {τ:Type} (s x:Sp τ): ∀A:List (Sp τ),stepM (A ++ [x]) s=A++(bif mg x s then [jn x s] else [x,s])
 | []=>rfl
 | [a]=>rfl
 | a::b::A=>by
  show a::stepM ((b::A) ++ [x]) s=_
  rw [stepM_snoc s x (b::A)]
  rfl
theorem consM_len {τ:Type} (s:Sp τ) (l:List (Sp τ)):(consM s l).length≤l.length+1:=by
 cases l with
 | nil=>exact Nat.le_refl _
 | cons x l=>
  show (bif mg s x then jn s x::l else s::x::l).length≤_
  cases mg s x
  ·exact Nat.le_refl _
  ·exact Nat.le_succ _
theorem mergeR_len {τ:Type}: ∀l:List (Sp τ),(mergeR l).length≤l.length
 | []=>Nat.le_refl _
 | s::l=>Nat.le_trans (consM_len s _) (Nat.succ_le_succ (mergeR_len l))
theorem stepM_take (ss:List SpanT18) {i:Nat} {s:SpanT18} (h:ss[i]? = some s):mergeR (ss.take (i+1))=stepM (mergeR (ss.take i)) s:=by
 rw [stepM_merge,List.take_add_one,h];rfl
theorem set_snoc {α:Type} (x y:α): ∀A:List α,(A ++ [x]).set A.length y=A ++ [y]
 | []=>rfl
 | a::A=>congrArg (a :: ·) (set_snoc x y A)
theorem get_snoc {α:Type} (x:α) (A:List α):(A ++ [x])[A.length]? = some x:=by
 rw [List.getElem?_append_right (Nat.le_refl _),Nat.sub_self];rfl
theorem nil_or_snoc {α:Type} (l:List α):l= [] ∨ ∃A x,l=A ++ [x]:=by
 rcases List.eq_nil_or_concat l with h | ⟨A,x,h⟩
 ·exact Or.inl h
 ·exact Or.inr ⟨A,x,by simpa using h⟩
theorem G120_ok (ss:List SpanT18) (hl:ss.length<100000) (k:Nat) (hk:ss.length<k):G120 k (ss,())=some (mergeR ss,()):=by
 refine Ok.val ?_
 refine Ok.bind (Q:=fun (r:List SpanT18×Unit)=>r=(mergeR ss,())) ?_ ?_
 ·refine Ok.iter (fun p=> ∃i:Nat,i≤ss.length∧p=(ss,(ss.length:Int),(i:Int),mergeR (ss.take i),())) (fun p=>((ss.length:Int)-p.2.2.1).toNat) ?_ k _ ⟨0,by omega,rfl⟩ (by show ((ss.length:Int)-0).toNat<k;omega)
  rintro _ ⟨i,hi,rfl⟩
  have hw:w64 ((i:Int)+1)=((i+1:Nat):Int):=by rw [w64_ok (by omega) (by omega)];rfl
  refine Ok.dec (p:=(i:Int)<(ss.length:Int)) (fun hlt=> ?_) (fun hge=>Ok.some ?_)
  ·refine Ok.bind (Q:=fun p=>p=(ss,(ss.length:Int),(i:Int),mergeR (ss.take (i+1)),())) ?_ ?_
   ·refine Ok.at (by omega) hlt fun s hs hsi=> ?_
    have hnx:=stepM_take ss hsi
    have hol:=mergeR_len (ss.take i)
    rw [List.length_take] at hol
    have e2:ss.take (((i:Int).toNat)+1)=ss.take (i+1):=rfl
    have e3:ss.take ((i:Int).toNat)=ss.take i:=rfl
    rw [e2,e3] at hnx
    generalize mergeR (ss.take i)=out at hnx hol ⊢
    rcases nil_or_snoc out with rfl | ⟨A,x,rfl⟩
    ·refine Ok.eq (a:=(w64 (((([]:List SpanT18).length:Nat):Int)-1),ss,(ss.length:Int),(i:Int),false,([]:List SpanT18),s,())) rfl ?_
     refine Ok.ff rfl ?_
     refine Ok.room (by show 0+1≤_;omega) (by omega) (Ok.some ?_)
     rw [hnx];rfl
    ·have hal:(A ++ [x]).length=A.length+1:=by rw [List.length_append];rfl
     have hwl:w64 (((A ++ [x]).length:Int)-1)=(A.length:Int):=by rw [hal,w64_ok (by omega) (by omega)];omega
     have hg:(A ++ [x])[((A.length:Int)).toNat]? = some x:=get_snoc x A
     rw [stepM_snoc] at hnx
     refine Ok.bind (Q:=fun p=>p=((A.length:Int),ss,(ss.length:Int),(i:Int),mg x s,A ++ [x],s,())) ?_ ?_
     ·rw [hwl]
      refine Ok.tt (decide_eq_true (by omega)) ?_
      refine Ok.eq (G129_eq k s) ?_
      unfold mg
      refine Ok.cond (fun h1=> ?_) (fun h1=>Ok.some (by rw [h1,Bool.false_and,Bool.and_false]))
      refine Ok.atV (by omega) hg (Ok.getV hg ?_)
      refine Ok.eq (G129_eq k x) ?_
      refine Ok.cond (fun h2=> ?_) (fun h2=>Ok.some (by rw [h2,Bool.false_and]))
      exact Ok.atV (by omega) hg (Ok.getV hg (Ok.some (by rw [h1,h2,Bool.true_and,Bool.true_and])))
     ·rintro _ rfl
      refine Ok.cond (fun h=> ?_) (fun h=> ?_)
      ·refine Ok.atV (by omega) hg (Ok.getV hg (Ok.some ?_))
       rw [h] at hnx
       have e:List.set (A ++ [x]) (Int.toNat (A.length:Int)) (x.1,s.2.1,x.2.2.1,())=_:=set_snoc x (x.1,s.2.1,x.2.2.1,()) A
       rw [hnx,e];rfl
      ·rw [h] at hnx
       refine Ok.room (by rw [hal];show A.length+1+1≤_;omega) (by omega) (Ok.some ?_)
       rw [hnx,List.append_assoc];rfl
   ·rintro _ rfl
    refine Ok.some ⟨⟨i+1,by omega,?_⟩,?_⟩
    ·show (ss,(ss.length:Int),w64 ((i:Int)+1),mergeR (ss.take (i+1)),())=_
     rw [hw]
    ·show ((ss.length:Int)-w64 ((i:Int)+1)).toNat<((ss.length:Int)-(i:Int)).toNat
     rw [hw];omega
  ·have e:i=ss.length:=by omega
   subst e
   rw [List.take_length]
 ·rintro _ rfl
  exact Ok.some rfl
def clip1 (a b:Int) (s:SpanT18):List SpanT18:=
 if max s.1 a≥min s.2.1 b then [] else bif wetS s then [(max s.1 a,min s.2.1 b,[],())] else [s]
def clipL (a b:Int):List SpanT18→List SpanT18
 | []=> []
 | s::l=>clip1 a b s++clipL a b l
theorem clip1_len (a b:Int) (s:SpanT18):(clip1 a b s).length≤1:=by
 unfold clip1
 split
 ·exact Nat.zero_le _
 ·cases wetS s<;>exact Nat.le_refl _
theorem clipL_len (a b:Int): ∀ss:List SpanT18,(clipL a b ss).length≤ss.length
 | []=>Nat.le_refl _
 | s::l=>by
  have h1:=clip1_len a b s
  have h2:=clipL_len a b l
  show (clip1 a b s++clipL a b l).length≤l.length+1
  rw [List.length_append];omega
theorem clipL_append (a b:Int) (m:List SpanT18): ∀l:List SpanT18,clipL a b (l++m)=clipL a b l++clipL a b m
 | []=>rfl
 | s::l=>by
  show clip1 a b s++clipL a b (l++m)=clip1 a b s++clipL a b l++clipL a b m
  rw [clipL_append a b m l,List.append_assoc]
theorem clipL_take (a b:Int) (ss:List SpanT18) {i:Nat} {s:SpanT18} (h:ss[i]? = some s):clipL a b (ss.take (i+1))=clipL a b (ss.take i)++clip1 a b s:=by
 rw [List.take_add_one,h,clipL_append]
 show _++(clip1 a b s ++ [])=_
 rw [List.append_nil]
theorem max_comm' (a b:Int):(if (true=true) then (if b>a then b else a) else (if b<a then b else a))=max a b:=by
 rw [if_pos rfl];omega
theorem min_comm' (a b:Int):(if (false=true) then (if b>a then b else a) else (if b<a then b else a))=min a b:=by
 rw [if_neg (by decide)];omega
theorem G118_ok (ss:List SpanT18) (a b:Int) (hl:ss.length<100000) (k:Nat) (hk:ss.length<k):G118 k (ss,a,b,())=some (mergeR (clipL a b ss),()):=by
 refine Ok.val ?_
 refine Ok.bind (Q:=fun (r:List SpanT18×Unit)=>r=(clipL a b ss,())) ?_ ?_
 ·refine Ok.iter (fun p=> ∃i:Nat,i≤ss.length∧p=(a,b,ss,(ss.length:Int),(i:Int),clipL a b (ss.take i),())) (fun p=>((ss.length:Int)-p.2.2.2.2.1).toNat) ?_ k _ ⟨0,by omega,rfl⟩ (by show ((ss.length:Int)-0).toNat<k;omega)
  rintro _ ⟨i,hi,rfl⟩
  have hw:w64 ((i:Int)+1)=((i+1:Nat):Int):=by rw [w64_ok (by omega) (by omega)];rfl
  refine Ok.dec (p:=(i:Int)<(ss.length:Int)) (fun hlt=> ?_) (fun hge=>Ok.some ?_)
  ·refine Ok.at (by omega) hlt fun s hs hsi=> ?_
   have hnx:=clipL_take a b ss hsi
   have hol:=clipL_len a b (ss.take i)
   rw [List.length_take] at hol
   rw [max_comm',min_comm']
   refine Ok.bind (Q:=fun p=>p=(a,b,ss,(ss.length:Int),(i:Int),clipL a b (ss.take (i+1)),())) ?_ ?_
   ·have e2:ss.take (((i:Int).toNat)+1)=ss.take (i+1):=rfl
    have e3:ss.take ((i:Int).toNat)=ss.take i:=rfl
    rw [e2,e3] at hnx
    rw [hnx]
    unfold clip1
    refine Ok.dec (p:=max s.1 a≥min s.2.1 b) (fun h=>Ok.some ?_) (fun h=> ?_)
    ·rw [if_pos h,List.append_nil]
    ·rw [if_neg h]
     refine Ok.eq (G129_eq k s) ?_
     refine Ok.bind (Q:=fun p=>p=(a,b,ss,(ss.length:Int),(i:Int),clipL a b (ss.take i)++(bif wetS s then [(max s.1 a,min s.2.1 b,[],())] else [s]),())) ?_ ?_
     ·refine Ok.cond (fun h1=>Ok.room (by show _+1≤_;omega) (by omega) (Ok.some ?_)) (fun h1=>Ok.room (by show _+1≤_;omega) (by omega) (Ok.some ?_))
      ·rw [h1];rfl
      ·rw [h1];rfl
     ·rintro _ rfl
      exact Ok.some rfl
   ·rintro _ rfl
    refine Ok.some ⟨⟨i+1,by omega,?_⟩,?_⟩
    ·show (a,b,ss,(ss.length:Int),w64 ((i:Int)+1),clipL a b (ss.take (i+1)),())=_
     rw [hw]
    ·show ((ss.length:Int)-w64 ((i:Int)+1)).toNat<((ss.length:Int)-(i:Int)).toNat
     rw [hw];omega
  ·have e:i=ss.length:=by omega
   subst e
   rw [List.take_length]
 ·rintro _ rfl
  have:=clipL_len a b ss
  exact Ok.eq (G120_ok _ (by omega) k (by omega)) (Ok.some rfl)
end Go.Pi
namespace Go.Pi
set_option linter.unusedVariables false
set_option maxRecDepth 20000
theorem wet_gt (s:SpanT18):decide ((s.2.2.1.length:Int)>(0:Int)) = !wetS s:=by
 rw [← wet_eq]
 cases s.2.2.1 with
 | nil=>rfl
 | cons a l=>
  have h: ¬(((a::l).length:Int)=0):=by rw [List.length_cons];omega
  rw [beq_eq_false_iff_ne.2 h]
  exact decide_eq_true (by rw [List.length_cons];omega)
theorem drop_cons {α:Type} {l:List α} {i:Nat} {v:α} (h:l[i]? = some v):l.drop i=v::l.drop (i+1):=by
 obtain ⟨h1,h2⟩:=List.getElem?_eq_some_iff.1 h
 rw [List.drop_eq_getElem_cons h1,h2]
end Go.Pi
namespace Go.Pi
set_option linter.unusedVariables false
set_option maxRecDepth 20000
theorem by8 {n:Int} (h:inK .u8 n):0≤n∧n<256:=by
 have h1:(0:Int)≤n:=h.1
 have h2:n≤255:=h.2
 omega
theorem Row.mem: ∀ {a b:Int} {l:List SpanT18},Row a b l→a≤b∧ ∀s∈l,a≤s.1∧s.1<s.2.1∧s.2.1≤b
 | a,b,[],h=>by
  have h':a=b:=h
  exact ⟨by omega,fun s hs=>nomatch hs⟩
 | a,b,s::l,h=>by
  obtain ⟨h1,h2,h3⟩:=h
  obtain ⟨h4,h5⟩:=Row.mem h3
  refine ⟨by omega,fun t ht=> ?_⟩
  rcases List.mem_cons.1 ht with rfl | ht
  ·omega
  ·have:=h5 t ht;omega
theorem clip_out {a b:Int}: ∀ {l:List SpanT18},(∀s∈l,max s.1 a≥min s.2.1 b)→clipL a b l= []
 | [],_=>rfl
 | s::l,h=>by
  show clip1 a b s++clipL a b l= []
  rw [clip_out fun x hx=>h x (List.mem_cons_of_mem _ hx)]
  unfold clip1
  rw [if_pos (h s List.mem_cons_self)];rfl
end Go.Pi
namespace Go.Pi
set_option linter.unusedVariables false
set_option maxRecDepth 20000
def Sh (to:Int):Bool→Int→List SpanT18→Prop
 | _,a,[]=>to≤a
 | fst,a,s::l=>((wetS s=true→s.1=a∧s.2.1≤to)∧(wetS s=false→s.1≤a∧(fst=false→s.1=a)))∧a<s.2.1∧Sh to false s.2.1 l
theorem Sh.cons {to:Int} {fst:Bool} {a:Int} {s:SpanT18} {l:List SpanT18} (h:Sh to fst a (s::l)):Sh to fst a (consM s l):=by
 cases l with
 | nil=>exact h
 | cons x l=>
  show Sh to fst a (bif mg s x then jn s x::l else s::x::l)
  cases hm:mg s x with
  | false=>exact h
  | true=>
   obtain ⟨⟨h1,h2⟩,h3,⟨h4,h5⟩,h6,h7⟩:=h
   have hm2:=hm
   unfold mg at hm2
   simp only [Bool.and_eq_true] at hm2
   have h8:=h1 hm2.1
   have h9:=h4 hm2.2.1
   exact ⟨⟨fun _=>⟨h8.1,h9.2⟩,fun h=>absurd hm2.1 (by rw [show wetS s=wetS (jn s x) from rfl,h];decide)⟩,by show a<x.2.1;omega,h7⟩
theorem Sh.merge {to:Int}: ∀ {fst:Bool} {a:Int} {l:List SpanT18},Sh to fst a l→Sh to fst a (mergeR l)
 | _,_,[],h=>h
 | _,_,s::l,h=>Sh.cons ⟨h.1,h.2.1,Sh.merge h.2.2⟩
theorem clip_Sh {a b n:Int} (hab:a<b) (hb:b≤n): ∀ {u:Int} {fst:Bool} {ss:List SpanT18},Row u n ss→(fst=false→a≤u)→Sh b fst (max u a) (clipL a b ss)
 | u,fst,[],h,_=>by have h':u=n:=h;show b≤max u a;omega
 | u,fst,s::l,h,hf=>by
  obtain ⟨h1,h2,h3⟩:=h
  have hmem:=h3.mem.2
  show Sh b fst (max u a) (clip1 a b s++clipL a b l)
  by_cases hc:max s.1 a≥min s.2.1 b
  ·have e:clip1 a b s= []:=by unfold clip1;rw [if_pos hc]
   rw [e,List.nil_append]
   by_cases hs:s.2.1≤a
   ·have ih:=clip_Sh (fst:=fst) hab hb h3 (fun h=>by have:=hf h;omega)
    rw [show max s.2.1 a=max u a by omega] at ih
    exact ih
   ·rw [clip_out fun t ht=>by have:=hmem t ht;omega]
    show b≤max u a
    omega
  ·have ih:=clip_Sh (fst:=false) hab hb h3 (fun _=>by omega)
   have e:clip1 a b s=bif wetS s then [(max s.1 a,min s.2.1 b,[],())] else [s]:=by unfold clip1;rw [if_neg hc]
   rw [e]
   cases hw:wetS s with
   | true=>
    refine ⟨⟨fun _=>⟨by show max s.1 a=max u a;omega,by show min s.2.1 b≤b;omega⟩,fun h=>nomatch h⟩,by show max u a<min s.2.1 b;omega,?_⟩
    show Sh b false (min s.2.1 b) (clipL a b l)
    by_cases h4:s.2.1≤b
    ·rw [show max s.2.1 a=min s.2.1 b by omega] at ih
     exact ih
    ·rw [clip_out fun t ht=>by have:=hmem t ht;omega]
     show b≤min s.2.1 b
     omega
   | false=>
    refine ⟨⟨fun h=>absurd h (by rw [hw];decide),fun _=>⟨by omega,fun h=>by have:=hf h;omega⟩⟩,by omega,?_⟩
    rw [show max s.2.1 a=s.2.1 by omega] at ih
    exact ih
theorem NormM.get {x y:SpanT18}: ∀ {l:List SpanT18} {i:Nat},NormM l→l[i]? = some x→l[i+1]? = some y→mg x y=false
 | [],_,_,h,_=>nomatch h
 | [_],_,_,_,h=>by simp at h
 | a::b::l,0,h,h1,h2=>by
  have e1:a=x:=Option.some.inj h1
  have e2:b=y:=Option.some.inj h2
  subst e1
  subst e2
  exact h.1
 | a::b::l,i+1,h,h1,h2=>NormM.get (l:=b::l) (i:=i) h.2 h1 h2
theorem l112_1 {fr to:Int} {c:List SpanT18} (hn:NormM c) (hc:Sh to true fr c) (hl:c.length<100000) (k:Nat) (hk:c.length<k) :
  Ok (iter k (g112_1 k) (fr,to,fr,0,c,())) fun r=> ∃at':Int,to≤at'∧(c= []→at'=fr)∧r=Sum.inl (fr,to,at',c,()):=by
 refine Ok.iter (fun p=> ∃(i:Nat) (a:Int),i≤c.length∧Sh to (decide (i=0)) a (c.drop i)∧(i=0→a=fr)∧(∀j x,i=j+1→c[j]? = some x→x.2.1=a)∧p=(fr,to,a,(i:Int),c,()))
  (fun p=>((c.length:Int)-p.2.2.2.1).toNat) ?_ k _ ⟨0,fr,by omega,hc,fun _=>rfl,(fun j x h=>by omega),rfl⟩ (by show ((c.length:Int)-0).toNat<k;omega)
 rintro _ ⟨i,a,hi,hsh,h0,hp,rfl⟩
 have hw:w64 ((i:Int)+1)=((i+1:Nat):Int):=by rw [w64_ok (by omega) (by omega)];rfl
 refine Ok.dec (p:=(i:Int)<(c.length:Int)) (fun hlt=> ?_) (fun hge=> ?_)
 ·obtain ⟨s,hs⟩: ∃s,c[i]? = some s:=⟨_,List.getElem?_eq_getElem (by omega)⟩
  have hs':c[(i:Int).toNat]? = some s:=hs
  rw [drop_cons hs] at hsh
  obtain ⟨⟨h1,h2⟩,h3,h4⟩:=hsh
  refine Ok.atV (by omega) hs' (Ok.getV hs' ?_)
  refine Ok.bind (Q:=fun p=>p=Sum.inr (fr,to,(i:Int),c,())) ?_ ?_
  ·rw [wet_gt]
   refine Ok.cond (fun hd=> ?_) (fun hd=> ?_)
   ·have hd2:wetS s=false:=by simpa using hd
    have h5:=h2 hd2
    refine Ok.bind (Q:=fun p=>p=(fr,to,(i:Int),false,c,())) ?_ ?_
    ·refine Ok.atV (by omega) hs' (Ok.getV hs' ?_)
     refine Ok.dec (p:=s.1>a) (fun h=>by omega) (fun _=> ?_)
     have hf:decide (s.2.1≤a)=false:=decide_eq_false (by omega)
     refine Ok.dec (p:=(i:Int)>0) (fun hi0=> ?_) (fun hi0=> ?_)
     ·have e:=h5.2 (decide_eq_false (by omega))
      refine Ok.atV (by omega) hs' (Ok.getV hs' ?_)
      refine Ok.ff (by rw [e];simp) (Ok.atV (by omega) hs' (Ok.getV hs' (Ok.some ?_)))
      rw [hf]
     ·exact Ok.atV (by omega) hs' (Ok.getV hs' (Ok.some (by rw [hf])))
    ·rintro _ rfl
     exact Ok.ff rfl (Ok.some rfl)
   ·have hd2:wetS s=true:=by simpa using hd
    have h5:=h1 hd2
    refine Ok.bind (Q:=fun p=>p=(fr,to,(i:Int),false,c,())) ?_ ?_
    ·refine Ok.atV (by omega) hs' (Ok.getV hs' ?_)
     refine Ok.ff (by rw [h5.1];simp) (Ok.atV (by omega) hs' (Ok.getV hs' ?_))
     refine Ok.dec (p:=s.2.1>to) (fun h=>by omega) (fun _=> ?_)
     refine Ok.dec (p:=(i:Int)>0) (fun hi0=> ?_) (fun hi0=>Ok.some rfl)
     obtain ⟨j,rfl⟩: ∃j,i=j+1:=⟨i-1,by omega⟩
     have hwj:w64 (((j+1:Nat):Int)-1)=(j:Int):=by rw [w64_ok (by omega) (by omega)];omega
     obtain ⟨x,hx⟩: ∃x,c[j]? = some x:=⟨_,List.getElem?_eq_getElem (by omega)⟩
     have hxa:=hp j x rfl hx
     have hmg:=NormM.get hn hx hs
     rw [hwj]
     refine Ok.atV (by omega) (show c[((j:Int)).toNat]? = some x from hx) (Ok.getV (show c[((j:Int)).toNat]? = some x from hx) (Ok.some ?_))
     rw [wet_eq]
     have e:wetS x=false:=by
      unfold mg at hmg
      rw [hd2,Bool.true_and,show (x.2.1==s.1)=true by rw [hxa,h5.1];simp,Bool.and_true] at hmg
      exact hmg
     rw [e]
    ·rintro _ rfl
     exact Ok.ff rfl (Ok.some rfl)
  ·rintro _ rfl
   refine Ok.atV (by omega) hs' (Ok.getV hs' (Ok.some ⟨⟨i+1,s.2.1,by omega,?_,(fun h=>by omega),(fun j x h hx=> ?_),?_⟩,?_⟩))
   ·rw [decide_eq_false (by omega)];exact h4
   ·have e:j=i:=by omega
    subst e
    rw [hs] at hx
    rw [Option.some.inj hx]
   ·show (fr,to,s.2.1,w64 ((i:Int)+1),c,())=_
    rw [hw]
   ·show ((c.length:Int)-w64 ((i:Int)+1)).toNat<((c.length:Int)-(i:Int)).toNat
    rw [hw];omega
 ·have e:i=c.length:=by omega
  subst e
  rw [List.drop_length] at hsh
  exact Ok.some ⟨a,hsh,fun h=>h0 (by rw [h];rfl),rfl⟩
theorem law112 {a:Int} {tx:List Int} {x y:Int} (ha:inK .u8 a) (htx: ∀v∈tx,inK .u8 v) (hx:inK .u8 x) (hy:inK .u8 y):G112 K0 (a,tx,x,y,())=some (true,()):=by
 have ha:=by8 ha
 have hx:=by8 hx
 have hy:=by8 hy
 refine Ok.val ?_
 unfold G112
 refine Ok.eq G116_K0 ?_
 refine Ok.ff rfl ?_
 refine Ok.dec (p:=(tx.length:Int)>14) (fun _=>Ok.some rfl) (fun hl=> ?_)
 refine Ok.bind (G117_ok ha.1 ha.2 (fun v hv=>by8 (htx v hv)) (by omega)) ?_
 rintro _ ⟨n,ss,hn,hs,rfl⟩
 have hlen:=hs.row.len
 have hwn:w64 ((n:Int)+1)=(n:Int)+1:=w64_ok (by omega) (by omega)
 have hwx:w64 x=x:=w64_ok (by omega) (by omega)
 have hwy:w64 y=y:=w64_ok (by omega) (by omega)
 refine Ok.nz (by rw [hwn];omega) ?_
 have hm:=tmod_in (a:=x) (b:=(n:Int)+1) hx.1 (by omega)
 rw [min_eq,hwn,hwx,hwy]
 generalize Int.tmod x ((n:Int)+1)=fr at hm ⊢
 have hwf:w64 (fr+y)=fr+y:=w64_ok (by omega) (by omega)
 rw [hwf]
 have hto:fr≤min (n:Int) (fr+y)∧min (n:Int) (fr+y)≤n:=by omega
 generalize min (n:Int) (fr+y)=to at hto ⊢
 have hcl:=clipL_len fr to ss
 have hml:=mergeR_len (clipL fr to ss)
 refine Ok.eq (G118_ok ss fr to (by omega) K0 (by show _<200000;omega)) ?_
 have hsh:Sh to true fr (mergeR (clipL fr to ss)):=by
  refine Sh.merge ?_
  by_cases h:fr<to
  ·have:=clip_Sh (fst:=true) h hto.2 hs.row (fun h=>nomatch h)
   rw [show max 0 fr=fr by omega] at this
   exact this
  ·rw [clip_out fun s hs=>by omega]
   show to≤fr
   omega
 refine Ok.bind (l112_1 (norm_mergeR _) hsh (by omega) K0 (by show _<200000;omega)) ?_
 rintro _ ⟨at',h1,h2,rfl⟩
 refine Ok.bind (Q:=fun r=>r=(true,())) ?_ ?_
 ·refine Ok.tt (decide_eq_true h1) ?_
  refine Ok.dec (p:=((mergeR (clipL fr to ss)).length:Int)>0) (fun _=>Ok.some rfl) (fun h=>Ok.some ?_)
  have e:mergeR (clipL fr to ss)= []:=List.eq_nil_of_length_eq_zero (by omega)
  have h3:=h2 e
  rw [show (fr==to)=true by rw [beq_iff_eq];omega]
 ·rintro _ rfl
  exact Ok.some rfl
end Go.Pi
