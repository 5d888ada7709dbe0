import Derived.Test.YtbalfefjfgheoaaGreatWaB
import Derived.Test.YtbalfefjfgheoaaGreatKB
import Derived.Test.YtbalfefjfgheoaaGreatLP
set_option linter.all false
namespace Go.Pi
set_option linter.unusedVariables false
set_option maxRecDepth 20000
def rowH (h:List Nat) (row:List Int):Int:=(row.map fun x=>if x<0 then 0 else ((h.getD x.toNat 0:Nat):Int)).sum
def rowT (row:List Int):Int:=(row.map fun x=>if x<0 then (1:Int) else 0).sum
structure Rk (g:GrT) (c:Int) (h:List Nat):Prop where
 one:1≤c
 rule: ∀r∈g.2.2.2.1,1+rowH h r.2.1+rowT r.2.1*(1-c)≤((h.getD r.1.toNat 0:Nat):Int)
theorem l138_2 {dep i:Int} {g:GrT} {ws:List ItemT11} {c:Cube} {ns:List NodeT17} {x y z:Int} (hl:ns.length<100000) (k:Nat) (hk:ns.length<k) (a b:Int) :
  Ok (iter k (g138_2 k) (dep,0,g,ws,c,ns,x,y,z,a,b,())) fun r=> ∃a' b':Int,r=(g,ws,c,ns,x,y,z,a',b',()):=by
 refine Ok.iter (fun p=> ∃(j:Nat) (a' b':Int),j≤ns.length∧p=(dep,(j:Int),g,ws,c,ns,x,y,z,a',b',()))
  (fun p=>((ns.length:Int)-p.2.1).toNat) ?_ k _ ⟨0,a,b,by omega,rfl⟩ (by show ((ns.length:Int)-0).toNat<k;omega)
 rintro _ ⟨j,a1,b1,hj,rfl⟩
 have hw:w64 ((j:Int)+1)=((j+1:Nat):Int):=by rw [w64_ok (by omega) (by omega)];rfl
 refine Ok.dec (p:=(j:Int)<(ns.length:Int)) (fun hlt=> ?_) (fun _=>Ok.some ⟨a1,b1,rfl⟩)
 refine Ok.bind (Q:=fun p=> ∃a':Int,p=(dep,(j:Int),g,ws,c,ns,x,y,z,a',b1,())) ?_ ?_
 ·exact Ok.cond (fun _=>Ok.at (by omega) hlt fun _ _ _=>Ok.get (by omega) fun _ _ _=>Ok.some ⟨_,rfl⟩) (fun _=>Ok.some ⟨_,rfl⟩)
 ·rintro _ ⟨a2,rfl⟩
  refine Ok.at (by omega) hlt fun _ _ _=>Ok.get (by omega) fun _ _ _=> ?_
  refine Ok.bind (Q:=fun p=> ∃b':Int,p=(dep,(j:Int),g,ws,c,ns,x,y,z,a2,b',())) ?_ ?_
  ·exact Ok.cond (fun _=>Ok.at (by omega) hlt fun _ _ _=>Ok.get (by omega) fun _ _ _=>Ok.some ⟨_,rfl⟩) (fun _=>Ok.some ⟨_,rfl⟩)
  ·rintro _ ⟨b2,rfl⟩
   refine Ok.some ⟨⟨j+1,a2,b2,by omega,?_⟩,?_⟩
   ·show (dep,w64 ((j:Int)+1),g,ws,c,ns,x,y,z,a2,b2,())=_
    rw [hw]
   ·show ((ns.length:Int)-w64 ((j:Int)+1)).toNat<((ns.length:Int)-(j:Int)).toNat
    rw [hw];omega
end Go.Pi
namespace Go.Pi
set_option linter.unusedVariables false
set_option maxRecDepth 20000
def ms (B:Nat) (dep:Int):Nat:=(200-dep).toNat*(B+1)
theorem ms_succ {B:Nat} {dep:Int} (h:dep<200):ms B (dep+1)+(B+1)=ms B dep:=by
 unfold ms
 have e:(200-dep).toNat=(200-(dep+1)).toNat+1:=by omega
 rw [e,Nat.add_mul,Nat.one_mul]
def ESpec (B:Nat) (g:GrT) (ws:List ItemT11) (c:Cube) (cc:Int) (h:List Nat) (e:E140) (d:Nat):Prop:=
 ∀(row:List Int) (i j dep pos:Int),(∀x∈row, -(g.1.length:Int)≤x∧x<g.2.1.length)→row.length<B→0≤i→i≤j→j≤ws.length→0≤dep→dep≤200 →
  cc*(j-i)+rowH h row≤90000→ms B dep+row.length<d →
  Ok (e (row,i,j,dep,pos,g,ws,c,())) fun r=> ∃b ns,r=(b,g,ws,c,ns,())∧(ns.length:Int)≤cc*(j-i)+rowH h row∧(b=true→(ns.length:Int)≤cc*(j-i)+rowH h row+rowT row*(1-cc))
theorem G138R_ok {B:Nat} {g:GrT} {ws:List ItemT11} {c:Cube} {cc:Int} {h:List Nat} {e:E140} {d:Nat} (he:ESpec B g ws c cc h e d) (hg:GOk B g) (hr:Rk g cc h)
  {A i j dep pos:Int} (hi:0≤i) (hij:i≤j) (hj:j≤ws.length) (hd:0≤dep) (hd2:dep≤200) (hcc:0≤cc*(j-i))
  (hb: ∀r∈g.2.2.2.1,cc*(j-i)+rowH h r.2.1≤90000) (hm:ms B dep≤d) (k:Nat) (hk:B≤k) (hk2:90001<k) :
  Ok (G138R k e (A,i,j,dep,pos,g,ws,c,())) fun r=> ∃ns,r=(g,ws,c,ns,())∧(ns.length:Int)≤cc*(j-i)+((h.getD A.toNat 0:Nat):Int):=by
 have hbig:=hg.big
 have hrs:=hg.rules
 refine Ok.bind (Q:=fun r=>r=Sum.inl (g,ws,c,()) ∨ ∃ns:List NodeT17,r=Sum.inr (g,ws,c,ns,())∧(ns.length:Int)≤cc*(j-i)+((h.getD A.toNat 0:Nat):Int)) ?_ ?_
 ·refine Ok.iter (fun p=> ∃(ri:Nat),ri≤g.2.2.2.1.length∧p=(A,i,j,dep,pos,(ri:Int),g,ws,c,()))
   (fun p=>((g.2.2.2.1.length:Int)-p.2.2.2.2.2.1).toNat) ?_ k _ ⟨0,by omega,rfl⟩ (by show ((g.2.2.2.1.length:Int)-0).toNat<k;omega)
  rintro _ ⟨ri,hri,rfl⟩
  have hw:w64 ((ri:Int)+1)=((ri+1:Nat):Int):=by rw [w64_ok (by omega) (by omega)];rfl
  have hwd:w64 (dep+1)=dep+1:=w64_ok (by omega) (by omega)
  refine Ok.bind (Q:=fun p=> ∃b:Bool,(b=true→(ri:Int)<g.2.2.2.1.length∧dep<200)∧p=(A,i,j,dep,pos,(ri:Int),b,g,ws,c,())) ?_ ?_
  ·exact Ok.dec (p:=(ri:Int)<(g.2.2.2.1.length:Int)) (fun h1=>Ok.some ⟨_,fun e=>⟨h1,of_decide_eq_true e⟩,rfl⟩) (fun _=>Ok.some ⟨false,(fun e=>nomatch e),rfl⟩)
  ·rintro _ ⟨b,hbt,rfl⟩
   refine Ok.cond (fun e1=> ?_) (fun _=>Ok.some (Or.inl rfl))
   obtain ⟨h1,h2⟩:=hbt e1
   refine Ok.bind (Q:=fun r=>r=Sum.inl (A,i,j,dep,pos,(ri:Int),g,ws,c,()) ∨ ∃ns:List NodeT17,r=Sum.inr (g,ws,c,ns,())∧(ns.length:Int)≤cc*(j-i)+((h.getD A.toNat 0:Nat):Int)) ?_ ?_
   ·refine Ok.at (by omega) h1 fun v hv hvi=> ?_
    by_cases hA:v.1=A
    ·refine Ok.ff (by simp [hA]) (Ok.at (by omega) h1 fun v2 hv2 hv2i=> ?_)
     have ev:v2=v:=by rw [hvi] at hv2i;exact (Option.some.inj hv2i).symm
     subst ev
     have hlen:=hg.len v2 hv
     have hms:=ms_succ (B:=B) h2
     refine Ok.bind (he v2.2.1 i j (w64 (dep+1)) pos (hg.rhs v2 hv) hlen hi hij hj (by omega) (by omega) (hb v2 hv) (by rw [hwd];omega)) ?_
     rintro _ ⟨b2,ns,rfl,hn1,hn2⟩
     have hb2:=hb v2 hv
     refine Ok.cond (fun _=>Ok.some (Or.inl rfl)) (fun eb=> ?_)
     have hbt2:b2=true:=by revert eb;cases b2<;>simp
     have hn3:=hn2 hbt2
     have hrk:=hr.rule v2 hv
     rw [hA] at hrk
     refine Ok.bind (l138_2 (dep:=dep) (i:=0) (g:=g) (ws:=ws) (c:=c) (ns:=ns) (x:=dep) (y:=(ri:Int)) (z:= -1) (by omega) k (by omega) pos pos) ?_
     rintro _ ⟨a',b',rfl⟩
     refine Ok.room (by show 1+ns.length≤_;omega) (by omega) (Ok.some (Or.inr ⟨[(dep,(ri:Int), -1,a',b',())]++ns,rfl,?_⟩))
     rw [List.length_append]
     show ((1+ns.length:Nat):Int)≤_
     omega
    ·exact Ok.tt (by simpa using hA) (Ok.some (Or.inl rfl))
   ·rintro _ (rfl | ⟨ns,rfl,hns⟩)
    ·refine Ok.some ⟨⟨ri+1,by omega,?_⟩,?_⟩
     ·show (A,i,j,dep,pos,w64 ((ri:Int)+1),g,ws,c,())=_
      rw [hw]
     ·show ((g.2.2.2.1.length:Int)-w64 ((ri:Int)+1)).toNat<((g.2.2.2.1.length:Int)-(ri:Int)).toNat
      rw [hw];omega
    ·exact Ok.some (Or.inr ⟨ns,rfl,hns⟩)
 ·rintro _ (rfl | ⟨ns,rfl,hns⟩)
  ·exact Ok.some ⟨[],rfl,by show ((0:Nat):Int)≤_;omega⟩
  ·exact Ok.some ⟨ns,rfl,hns⟩
end Go.Pi
namespace Go.Pi
set_option linter.unusedVariables false
set_option maxRecDepth 20000
theorem rowH_cons (h:List Nat) (x:Int) (r:List Int):rowH h (x::r)=(if x<0 then 0 else ((h.getD x.toNat 0:Nat):Int))+rowH h r:=by
 unfold rowH;rw [List.map_cons,List.sum_cons]
theorem rowT_cons (x:Int) (r:List Int):rowT (x::r)=(if x<0 then (1:Int) else 0)+rowT r:=by
 unfold rowT;rw [List.map_cons,List.sum_cons]
theorem rowH_nonneg (h:List Nat): ∀r:List Int,0≤rowH h r
 | []=>Int.le_refl _
 | x::r=>by
  rw [rowH_cons]
  have:=rowH_nonneg h r
  split<;>omega
theorem mul_step (c a b:Int):c*(a-(b+1))=c*(a-b)-c:=by
 rw [show a-(b+1)=(a-b)-1 by omega,Int.mul_sub,Int.mul_one]
theorem mul_split (c i j m:Int):c*(m-i)+c*(j-m)=c*(j-i):=by
 rw [← Int.mul_add,show m-i+(j-m)=j-i by omega]
theorem l140_1 {B:Nat} {g:GrT} {ws:List ItemT11} {c:Cube} {cc:Int} {h:List Nat} {e:E140} {d:Nat} (he:ESpec B g ws c cc h e d) (hg:GOk B g) (hr:Rk g cc h)
  (hc:CubeOk g.2.1.length ws.length c) {x:Int} {rest:List Int} (hx:0≤x) (hrow: ∀y∈x::rest, -(g.1.length:Int)≤y∧y<g.2.1.length) (hl:(x::rest).length<B)
  {i j dep pos:Int} (hi:0≤i) (hij:i≤j) (hj:j≤ws.length) (hd:0≤dep) (hd2:dep≤200) (hw:ws.length<99999)
  (hbd:cc*(j-i)+rowH h (x::rest)≤90000) (hb: ∀r∈g.2.2.2.1,cc*ws.length+rowH h r.2.1≤90000) (hm:ms B dep+rest.length<d) (k:Nat) (hk:B≤k) (hk2:100001<k) :
  Ok (iter k (g140_1 k e) (x::rest,i,j,dep,pos,x,i,g,ws,c,())) fun r=>r=Sum.inl (g,ws,c,()) ∨
   ∃b ns,r=Sum.inr (b,g,ws,c,ns,())∧(ns.length:Int)≤cc*(j-i)+rowH h (x::rest)∧(b=true→(ns.length:Int)≤cc*(j-i)+rowH h (x::rest)+rowT (x::rest)*(1-cc)):=by
 have hbig:=hg.big
 have hcl:=hc.len
 have hx2:=(hrow x List.mem_cons_self).2
 have hone:=hr.one
 have hrh:=rowH_cons h x rest
 have hrt:=rowT_cons x rest
 rw [if_neg (by omega)] at hrh hrt
 have hlc:(x::rest).length=rest.length+1:=rfl
 refine Ok.iter (fun p=> ∃m:Int,i≤m∧m≤j+1∧p=(x::rest,i,j,dep,pos,x,m,g,ws,c,())) (fun p=>(j+1-p.2.2.2.2.2.2.1).toNat) ?_ k _ ⟨i,by omega,by omega,rfl⟩ (by show (j+1-i).toNat<k;omega)
 rintro _ ⟨m,hm1,hm2,rfl⟩
 have hwm:w64 (m+1)=m+1:=w64_ok (by omega) (by omega)
 refine Ok.dec (p:=m≤j) (fun hmj=> ?_) (fun _=>Ok.some (Or.inl rfl))
 refine Ok.bind (Q:=fun p=> ∃b:Bool,p=(x::rest,i,j,dep,pos,x,m,b,g,ws,c,())) ?_ ?_
 ·refine Ok.at (by omega) (by omega) fun _ _ _=>Ok.get (by omega) fun _ _ _=>Ok.get (by omega) fun m1 q1 _=> ?_
  have r1:=hc.row m1 q1
  refine Ok.at (by omega) (by omega) fun _ _ _=>Ok.get (by omega) fun m2 q2 _=> ?_
  have r2:=hc.row m2 q2
  refine Ok.get (by omega) fun _ _ _=>Ok.get (by omega) fun m3 q3 _=> ?_
  have r3:=hc.row m3 q3
  refine Ok.get (by omega) fun s3 z3 _=> ?_
  have t3:=r3.2 s3 z3
  refine Ok.at (by omega) (by omega) fun _ _ _=>Ok.get (by omega) fun m4 q4 _=> ?_
  have r4:=hc.row m4 q4
  refine Ok.get (by omega) fun s4 z4 _=> ?_
  have t4:=r4.2 s4 z4
  refine Ok.get (by omega) fun b4 _ _=>Ok.cond (fun _=>Ok.some ⟨_,rfl⟩) (fun _=>Ok.hi (by omega) (by omega) ?_)
  refine Ok.bind (G139_ok (row:=rest) (g:=g) (ws:=ws) (start:=m) hc (fun y hy=>(hrow y (List.mem_cons_of_mem _ hy)).2) (by omega) (by omega) (by omega) (by omega) rfl k (by omega) (by omega)) ?_
  rintro _ ⟨bs,hbs,rfl⟩
  exact Ok.at (by omega) (by omega) fun _ _ _=>Ok.get (by omega) fun _ _ _=>Ok.some ⟨_,rfl⟩
 ·rintro _ ⟨b,rfl⟩
  refine Ok.cond (fun _=>Ok.some ⟨⟨m+1,by omega,by omega,?_⟩,?_⟩) (fun _=> ?_)
  ·show (x::rest,i,j,dep,pos,x,w64 (m+1),g,ws,c,())=_
   rw [hwm]
  ·show (j+1-w64 (m+1)).toNat<(j+1-m).toNat
   rw [hwm];omega
  ·have hsp:=mul_split cc i j m
   have hp1:0≤cc*(m-i):=Int.mul_nonneg (by omega) (by omega)
   have hp2:0≤cc*(j-m):=Int.mul_nonneg (by omega) (by omega)
   have hp3:cc*(m-i)≤cc*ws.length:=Int.mul_le_mul_of_nonneg_left (by omega) (by omega)
   have hrn:=rowH_nonneg h rest
   refine Ok.bind (Q:=fun p=> ∃pos2:Int,p=(x::rest,i,j,dep,pos,x,m,pos2,g,ws,c,())) ?_ ?_
   ·refine Ok.dec (p:=m>i) (fun hgt=> ?_) (fun _=>Ok.some ⟨_,rfl⟩)
    have hwm1:w64 (m-1)=m-1:=w64_ok (by omega) (by omega)
    exact Ok.at (by omega) (by omega) fun _ _ _=>Ok.some ⟨_,rfl⟩
   ·rintro _ ⟨pos2,rfl⟩
    refine Ok.hi (by omega) (by omega) ?_
    refine Ok.bind (he rest m j dep pos2 (fun y hy=>hrow y (List.mem_cons_of_mem _ hy)) (by omega) (by omega) hmj hj hd hd2 (by omega) hm) ?_
    rintro _ ⟨b1,n1,rfl,u1,u2⟩
    refine Ok.bind (G138R_ok (A:=x) (i:=i) (j:=m) (dep:=dep) (pos:=pos) he hg hr hi hm1 (by omega) hd hd2 hp1 (fun r hr=>by have:=hb r hr;omega) (by omega) k hk (by omega)) ?_
    rintro _ ⟨n2,rfl,u3⟩
    have hla:(n2++n1).length=n2.length+n1.length:=List.length_append
    refine Ok.room (by omega) (by omega) (Ok.some (Or.inr ⟨b1,n2++n1,rfl,by omega,fun eb=> ?_⟩))
    have:=u2 eb
    have e0:(0+rowT rest)*(1-cc)=rowT rest*(1-cc):=by rw [Int.zero_add]
    rw [hrt,e0]
    omega
end Go.Pi
namespace Go.Pi
set_option linter.unusedVariables false
set_option maxRecDepth 20000
theorem G140R_ok {B:Nat} {g:GrT} {ws:List ItemT11} {c:Cube} {cc:Int} {h:List Nat} {e:E140} {d:Nat} (he:ESpec B g ws c cc h e d) (hg:GOk B g) (hr:Rk g cc h)
  (hc:CubeOk g.2.1.length ws.length c) (hw:ws.length<99999) (hb: ∀r∈g.2.2.2.1,cc*ws.length+rowH h r.2.1≤90000) (k:Nat) (hk:B≤k) (hk2:100001<k) :
  ESpec B g ws c cc h (G140R k e) (d+1):=by
 intro row i j dep pos hrow hl hi hij hj hd hd2 hbd hm
 have hone:=hr.one
 have hp:0≤cc*(j-i):=Int.mul_nonneg (by omega) (by omega)
 match row,hrow,hl,hbd,hm with
 | [],_,_,_,_=>
  have e0:G140R k e ([],i,j,dep,pos,g,ws,c,())=some (i==j,g,ws,c,[],()):=rfl
  rw [e0]
  refine (Ok.some ⟨_,[],rfl,by show (0:Int)≤cc*(j-i)+0;omega,fun _=>by show (0:Int)≤cc*(j-i)+0+0*(1-cc);rw [Int.zero_mul];omega⟩)
 | x::rest,hrow,hl,hbd,hm=>
  have hbig:=hg.big
  have hlc:(x::rest).length=rest.length+1:=rfl
  have hrh:=rowH_cons h x rest
  have hrt:=rowT_cons x rest
  have hrn:=rowH_nonneg h rest
  have hstep:=mul_step cc j i
  have hne:(((x::rest).length:Int)==0)=false:=by rw [beq_eq_false_iff_ne];omega
  show Ok (bif (((x::rest).length:Int)==0) then some (i==j,g,ws,c,[],()) else _) _
  rw [hne]
  simp only [cond_false]
  refine Ok.at (l:=x::rest) (z:=0) (by omega) (by omega) fun x' _ hx'=> ?_
  have ex:x'=x:=(Option.some.inj hx').symm
  subst ex
  refine Ok.bind (Q:=fun r=>(∃b ns,r=Sum.inl (b,g,ws,c,ns,())∧(ns.length:Int)≤cc*(j-i)+rowH h (x'::rest)∧(b=true→(ns.length:Int)≤cc*(j-i)+rowH h (x'::rest)+rowT (x'::rest)*(1-cc)))∨(0≤x'∧r=Sum.inr (x'::rest,i,j,dep,pos,x',g,ws,c,()))) ?_ ?_
  ·refine Ok.dec (p:=x'<0) (fun hneg=> ?_) (fun hnn=>Ok.some (Or.inr ⟨by omega,rfl⟩))
   rw [if_pos hneg] at hrh hrt
   refine Ok.bind (Q:=fun p=> ∃b:Bool,(b=false→i<j)∧p=(x'::rest,i,j,dep,x',b,g,ws,c,())) ?_ ?_
   ·refine Ok.dec (p:=i≥j) (fun _=>Ok.some ⟨true,(fun e=>nomatch e),rfl⟩) (fun hlt=> ?_)
    have hwi:w64 (i+1)=i+1:=w64_ok (by omega) (by omega)
    refine Ok.at hi (by omega) fun w _ _=>Ok.cond (fun _=>Ok.some ⟨true,(fun e=>nomatch e),rfl⟩) (fun _=>Ok.hi (by omega) (by omega) ?_)
    refine Ok.bind (G139_ok (row:=rest) (g:=g) (ws:=ws) (start:=w64 (i+1)) hc (fun y hy=>(hrow y (List.mem_cons_of_mem _ hy)).2) (by omega) (by omega) (by omega) (by omega) rfl k (by omega) (by omega)) ?_
    rintro _ ⟨bs,hbs,rfl⟩
    exact Ok.at (by omega) (by show j<(bs.length:Int);omega) fun _ _ _=>Ok.get (by show j.toNat<bs.length;omega) fun _ _ _=>Ok.some ⟨_,fun _=>(by omega),rfl⟩
   ·rintro _ ⟨b,hbf,rfl⟩
    refine Ok.cond (fun _=>Ok.some (Or.inl ⟨false,[],rfl,by show (0:Int)≤_;omega,(fun e=>nomatch e)⟩)) (fun eb=> ?_)
    have hlt:=hbf eb
    have hwi:w64 (i+1)=i+1:=w64_ok (by omega) (by omega)
    refine Ok.hi (by omega) (by show (1:Int)≤((x'::rest).length:Nat);omega) (Ok.at hi (by show i<(ws.length:Int);omega) fun w _ _=> ?_)
    refine Ok.bind (he rest (w64 (i+1)) j dep w.2.2.1 (fun y hy=>hrow y (List.mem_cons_of_mem _ hy)) (by omega) (by omega) (by omega) hj hd hd2 (by rw [hwi,hstep];omega) (by omega)) ?_
    rintro _ ⟨b1,n1,rfl,u1,u2⟩
    rw [hwi,hstep] at u1 u2
    refine Ok.at hi (by show i<(ws.length:Int);omega) fun w2 _ _=>Ok.at hi (by show i<(ws.length:Int);omega) fun w3 _ _=> ?_
    refine Ok.room (by show 1+n1.length≤_;omega) (by omega) (Ok.some (Or.inl ⟨b1,_,rfl,?_,fun eb1=> ?_⟩))
    ·rw [List.length_append];show ((1+n1.length:Nat):Int)≤_;omega
    ·have:=u2 eb1
     have e1:(1+rowT rest)*(1-cc)=(1-cc)+rowT rest*(1-cc):=by rw [Int.add_mul,Int.one_mul]
     rw [List.length_append,hrt,e1];show ((1+n1.length:Nat):Int)≤_;omega
  ·rintro _ (⟨b,ns,rfl,u1,u2⟩ | ⟨hnn,rfl⟩)
   ·exact Ok.some ⟨b,ns,rfl,u1,u2⟩
   ·refine Ok.bind (l140_1 (pos:=pos) he hg hr hc hnn hrow hl hi hij hj hd hd2 hw hbd hb (by omega) k hk hk2) ?_
    rintro _ (rfl | ⟨b,ns,rfl,u1,u2⟩)
    ·have:=rowH_nonneg h (x'::rest)
     exact Ok.some ⟨false,[],rfl,by show (0:Int)≤_;omega,(fun e=>nomatch e)⟩
    ·exact Ok.some ⟨b,ns,rfl,u1,u2⟩
end Go.Pi
namespace Go.Pi
set_option linter.unusedVariables false
theorem P140_ok {B:Nat} {g:GrT} {ws:List ItemT11} {c:Cube} {cc:Int} {h:List Nat} (hg:GOk B g) (hr:Rk g cc h)
  (hc:CubeOk g.2.1.length ws.length c) (hw:ws.length<99999) (hb: ∀r∈g.2.2.2.1,cc*ws.length+rowH h r.2.1≤90000) (k:Nat) (hk:B≤k) (hk2:100001<k) :
  ∀d:Nat,ESpec B g ws c cc h (P140 k d).1 d
 | 0=>fun row i j dep pos _ _ _ _ _ _ _ _ hm=>absurd hm (Nat.not_lt_zero _)
 | d+1=>G140R_ok (P140_ok hg hr hc hw hb k hk hk2 d) hg hr hc hw hb k hk hk2
end Go.Pi
namespace Go.Pi
set_option linter.unusedVariables false
set_option maxRecDepth 20000
def chkO (B:Nat) (g:GrT):Bool:=
 (decide (g.2.1.length≤20)&&(decide (g.2.2.2.1.length<B)&&g.2.2.2.1.all (fun r=>decide (r.2.1.length<B))))&&decide (g.2.2.2.2.2.2.1≤50)
def chkR (cc:Int) (h:List Nat) (g:GrT):Bool:=g.2.2.2.1.all fun r=>decide (1+rowH h r.2.1+rowT r.2.1*(1-cc)≤((h.getD r.1.toNat 0:Nat):Int))&&decide (rowH h r.2.1≤1000)
def rkOf (g:GrT):Bool:= [[0,1],[1,0],[0,1,0,0,1],[0]].any fun h=>chkR 5 h g
structure Gv (g:GrT):Prop where
 giv:Given g
 gok:GOk 100 g
 rk: ∃h:List Nat,Rk g 5 h∧(∀r∈g.2.2.2.1,rowH h r.2.1≤1000)∧h.getD 0 0≤1
 nr:g.2.1.length≤20
 most0:0≤g.2.2.2.2.2.2.1
 most:g.2.2.2.2.2.2.1≤50
theorem grs_O:grs.all (fun g=>chkO 100 g&&rkOf g)=true:=by kernel_rfl
theorem Gv.of {g:GrT} (h:Given g) (hm:g∈grs):Gv g:=by
 have h1:=List.all_eq_true.1 grs_O g hm
 have h2:=h.chk
 simp only [Bool.and_eq_true,chkO,chkG,rkOf,chkR,decide_eq_true_eq,List.all_eq_true,List.any_eq_true,inR] at h1 h2
 obtain ⟨⟨⟨a1,a2,a3⟩,a4⟩,hh,hm,a5⟩:=h1
 obtain ⟨b1,b2,b3⟩:=h2
 refine ⟨h,⟨b1,by omega,by omega,a2,fun r hr=>(b3 r hr).1,fun r hr=>(b3 r hr).2,a3⟩,⟨hh,⟨by omega,fun r hr=>(a5 r hr).1⟩,fun r hr=>(a5 r hr).2,?_⟩,a1,b2,a4⟩
 simp only [List.mem_cons,List.not_mem_nil,or_false] at hm
 rcases hm with rfl | rfl | rfl | rfl<;>decide
theorem G135_ok {g:GrT} (hg:Gv g) {ws:List ItemT11} (hw:ws.length≤50) (pos:Int) :
  Ok (G135 K0 (g,ws,pos,())) fun r=>0≤r.2.1∧r.2.1≤ws.length∧r.1.length≤300:=by
 obtain ⟨h,hr,hr2,h0⟩:=hg.rk
 have hgo:=hg.gok
 have hnr:=hg.nr
 have hpos:=hgo.pos
 have hsq:(ws.length+1)*(ws.length+1)≤51*51:=Nat.mul_le_mul (by omega) (by omega)
 have hcu:g.2.1.length*((ws.length+1)*(ws.length+1))≤20*(51*51):=Nat.mul_le_mul hnr hsq
 refine Ok.bind (G137_ok (ws:=ws) hgo (by omega) K0 (by show _<200000;omega) (by decide) (by show _<200000;omega)) ?_
 rintro _ ⟨c,hc,rfl⟩
 refine Ok.bind (Q:=fun r=>r=Sum.inl () ∨ ∃(m:Int) (ns:List NodeT17),r=Sum.inr (m,ns,())∧0≤m∧m≤ws.length∧ns.length≤300) ?_ ?_
 ·refine Ok.iter (fun p=> ∃m:Nat,m≤ws.length∧p=(pos,(m:Int),g,ws,c,())) (fun p=>p.2.1.toNat) ?_ K0 _ ⟨ws.length,Nat.le_refl _,rfl⟩ (by show ((ws.length:Nat):Int).toNat<200000;omega)
  rintro _ ⟨m,hm,rfl⟩
  refine Ok.dec (p:=(m:Int)>0) (fun hgt=> ?_) (fun _=>Ok.some (Or.inl rfl))
  have hcl:=hc.len
  refine Ok.at (by omega) (by omega) fun _ _ _=>Ok.get (by omega) fun _ _ _=>Ok.get (by omega) fun m1 q1 _=> ?_
  have r1:=hc.row m1 q1
  refine Ok.at (by omega) (by omega) fun _ _ _=>Ok.get (by omega) fun m2 q2 _=> ?_
  have r2:=hc.row m2 q2
  refine Ok.get (by omega) fun _ _ _=>Ok.get (by omega) fun m3 q3 _=> ?_
  have r3:=hc.row m3 q3
  refine Ok.get (by omega) fun s3 z3 _=> ?_
  have t3:=r3.2 s3 z3
  refine Ok.at (by omega) (by omega) fun _ _ _=>Ok.get (by omega) fun m4 q4 _=> ?_
  have r4:=hc.row m4 q4
  refine Ok.get (by omega) fun s4 z4 _=> ?_
  have t4:=r4.2 s4 z4
  refine Ok.get (by omega) fun b4 _ _=>Ok.cond (fun _=> ?_) (fun _=> ?_)
  ·have hP:=P140_ok (k:=K0) hgo hr hc (by omega) (fun r hx=>by have:=hr2 r hx;omega) (by decide) (by decide) K0
   refine Ok.bind (G138R_ok (A:=0) (i:=0) (j:=(m:Int)) (dep:=0) (pos:=pos) hP hgo hr (by omega) (by omega) (by omega) (by omega) (by omega) (by omega) (fun r hx=>by have:=hr2 r hx;omega) (by decide) K0 (by decide) (by decide)) ?_
   rintro _ ⟨ns,rfl,hns⟩
   refine Ok.some (Or.inr ⟨m,ns,rfl,by omega,by omega,?_⟩)
   have h0':h.getD (Int.toNat 0) 0≤1:=h0
   omega
  ·have hw:w64 ((m:Int)-1)=((m-1:Nat):Int):=by rw [w64_ok (by omega) (by omega)];omega
   refine Ok.some ⟨⟨m-1,by omega,?_⟩,?_⟩
   ·show (pos,w64 ((m:Int)-1),g,ws,c,())=_
    rw [hw]
   ·show (w64 ((m:Int)-1)).toNat<((m:Int)).toNat
    rw [hw];omega
 ·rintro _ (rfl | ⟨m,ns,rfl,u1,u2,u3⟩)
  ·exact Ok.some ⟨Int.le_refl _,by show (0:Int)≤_;omega,by decide⟩
  ·exact Ok.some ⟨u1,u2,u3⟩
theorem min_eq (a b:Int):(if (false=true) then (if a>b then a else b) else (if a<b then a else b))=min a b:=by
 rw [if_neg (by decide)];omega
theorem G132_ok {g:GrT} (hg:Gv g) {d:DfaT6} (hd:DfaOk g.1.length d) (hn:d.2.1.length<100000) {bs:List Int} (hb: ∀x∈bs,0≤x∧x<256) (hl:bs.length<10000) :
  Ok (G132 K0 (g,d,bs,())) fun r=>0≤r.2.1∧r.2.1≤bs.length∧r.1.length≤300:=by
 have hm0:=hg.most0
 have hm:=hg.most
 have hmin:=min_eq g.2.2.2.2.2.2.1 (bs.length:Int)
 have hnil:Ok (some (([]:List NodeT17),(0:Int),())) fun r=>0≤r.2.1∧r.2.1≤bs.length∧r.1.length≤300:=
  Ok.some ⟨Int.le_refl _,by show (0:Int)≤_;omega,by decide⟩
 refine Ok.hi (by rw [hmin];omega) (by rw [hmin];omega) ?_
 rw [hmin]
 have hts:slC Option.none (Option.some (min g.2.2.2.2.2.2.1 (bs.length:Int))) 0 (min g.2.2.2.2.2.2.1 (bs.length:Int)).toNat bs=bs.take (min g.2.2.2.2.2.2.1 (bs.length:Int)).toNat:=rfl
 rw [hts]
 have htl:(bs.take (min g.2.2.2.2.2.2.1 (bs.length:Int)).toNat).length≤50:=by rw [List.length_take];omega
 have htl2:(bs.take (min g.2.2.2.2.2.2.1 (bs.length:Int)).toNat).length≤bs.length:=by rw [List.length_take];omega
 have htb: ∀x∈bs.take (min g.2.2.2.2.2.2.1 (bs.length:Int)).toNat,0≤x∧x<256:=fun x hx=>hb x (List.mem_of_mem_take hx)
 generalize bs.take (min g.2.2.2.2.2.2.1 (bs.length:Int)).toNat=ts at htl htl2 htb ⊢
 refine Ok.bind (G133_ok hd htb (by omega) (k:=K0) (by show _<200000;omega) (by omega)) ?_
 rintro ⟨ws,u⟩ ⟨hws,hwl⟩
 have hwl':ws.length≤ts.length:=hwl
 refine Ok.bind (Q:=fun p=> ∃b,p=(b,g,ws,())) ?_ ?_
 ·refine Ok.cond (fun _=>Ok.some ⟨true,rfl⟩) (fun e=> ?_)
  have e2:(ws.length:Int)≠0:=beq_eq_false_iff_ne.1 e
  refine Ok.at (by omega) (by omega) fun _ _ _=>Ok.get (by show Int.toNat 0<ws.length;omega) fun v hv _=> ?_
  have hv2:=hws.at' v hv
  exact Ok.at hv2.1 hv2.2.1 fun _ _ _=>Ok.some ⟨_,rfl⟩
 ·rintro _ ⟨b,rfl⟩
  refine Ok.cond (fun _=>hnil) (fun _=> ?_)
  refine Ok.bind (G134_ok (g:=g) hws (by omega) (k:=K0) (by show _<200000;omega)) ?_
  rintro ⟨vs,u⟩ hsub
  have hvl:vs.length≤ws.length:=List.Sublist.length_le hsub
  refine Ok.bind (G135_ok hg (ws:=vs) (by omega) 0) ?_
  rintro ⟨ns,m,u⟩ ⟨h1,h2,h3⟩
  refine Ok.cond (fun _=>hnil) (fun e=> ?_)
  have h1':0≤m:=h1
  have h2':m≤vs.length:=h2
  have e2:m≠0:=beq_eq_false_iff_ne.1 e
  have hw:w64 (m-1)=m-1:=w64_ok (by omega) (by omega)
  refine Ok.at (by rw [hw];omega) (by rw [hw];omega) fun _ _ _=>Ok.get (by rw [hw];omega) fun v hv _=> ?_
  have hv2:=hws.at' v (List.Sublist.subset hsub hv)
  exact Ok.some ⟨by show 0≤v.2.2.1;omega,by show v.2.2.1≤_;omega,h3⟩
def TOk (ns:List NodeT17):Prop:=ns.length≤300∧ ∀x∈ns,w64 x.2.2.2.1=x.2.2.2.1∧w64 x.2.2.2.2.1=x.2.2.2.2.1
def mvN (b:Int) (v:NodeT17):NodeT17:=(v.1,v.2.1,v.2.2.1,w64 (v.2.2.2.1+b),w64 (v.2.2.2.2.1+b),())
theorem G131_eq (ns:List NodeT17) (b:Int) (hl:ns.length<100000) (k:Nat) (hk:ns.length<k):G131 k (ns,b,())=some (ns.map (mvN b),()):=by
 have key:Ok (G131 k (ns,b,())) fun r=>r=(ns.map (mvN b),()):=by
  refine Ok.bind (Q:=fun (r:List NodeT17×Unit)=>r=(ns.map (mvN b),())) ?_ ?_
  ·refine Ok.iter (fun p=> ∃(i:Nat),i≤ns.length∧p=(ns,b,(i:Int),(ns.take i).map (mvN b),()))
    (fun p=>((ns.length:Int)-p.2.2.1).toNat) ?_ k _ ⟨0,by omega,rfl⟩ (by show ((ns.length:Int)-0).toNat<k;omega)
   rintro _ ⟨i,hi,rfl⟩
   have hw:w64 ((i:Int)+1)=((i+1:Nat):Int):=by rw [w64_ok (by omega) (by omega)];rfl
   refine Ok.dec (p:=(i:Int)<(ns.length:Int)) (fun hlt=> ?_) (fun hge=>Ok.some ?_)
   ·refine Ok.at (by omega) hlt fun v _ hv=> ?_
    have hv':ns[i]? = some v:=hv
    have hlen:((ns.take i).map (mvN b)).length=i:=by rw [List.length_map,List.length_take];omega
    refine Ok.room (by rw [hlen];show i+1≤_;omega) (by omega) (Ok.some ⟨⟨i+1,by omega,?_⟩,?_⟩)
    ·show (ns,b,w64 ((i:Int)+1),(ns.take i).map (mvN b) ++ [mvN b v],())=_
     rw [hw,List.take_add_one,hv',List.map_append];rfl
    ·show ((ns.length:Int)-w64 ((i:Int)+1)).toNat<((ns.length:Int)-(i:Int)).toNat
     rw [hw];omega
   ·have e:i=ns.length:=by omega
    subst e
    rw [List.take_length]
  ·rintro _ rfl
   exact Ok.some rfl
 obtain ⟨r,h1,h2⟩:=key
 rw [h1,h2]
theorem w64_in (z:Int): -9223372036854775808≤w64 z∧w64 z<9223372036854775808:=by
 have e:w64 z=if z % 18446744073709551616≥9223372036854775808 then z % 18446744073709551616-18446744073709551616 else z % 18446744073709551616:=by
  unfold w64
  simp [IntKind.wrap,IntKind.bits,IntKind.signed]
 rw [e]
 split<;>omega
theorem w64_w64 (z:Int):w64 (w64 z)=w64 z:=w64_ok (w64_in z).1 (w64_in z).2
theorem TOk.mv {ns:List NodeT17} (h:ns.length≤300) (b:Int):TOk (ns.map (mvN b)):=by
 refine ⟨by rw [List.length_map];exact h,fun x hx=> ?_⟩
 obtain ⟨v,hv,rfl⟩:=List.mem_map.1 hx
 exact ⟨w64_w64 _,w64_w64 _⟩
theorem TOk.mv0 {ns:List NodeT17} (h:TOk ns):ns.map (mvN 0)=ns:=by
 have: ∀x∈ns,mvN 0 x=x:=fun x hx=>by
  obtain ⟨h1,h2⟩:=h.2 x hx
  show (x.1,x.2.1,x.2.2.1,w64 (x.2.2.2.1+0),w64 (x.2.2.2.2.1+0),())=x
  rw [Int.add_zero,Int.add_zero,h1,h2]
 exact (List.map_congr_left this).trans (List.map_id ns)
def Row:Int→Int→List SpanT18→Prop
 | a,b,[]=>a=b
 | a,b,s::l=>s.1=a∧a<s.2.1∧Row s.2.1 b l
theorem Row.append {b c:Int} {m:List SpanT18} (hm:Row b c m): ∀ {a:Int} {l:List SpanT18},Row a b l→Row a c (l++m)
 | _,[],h=>by have h':_=b:=h;subst h';exact hm
 | _,s::l,h=>⟨h.1,h.2.1,Row.append hm h.2.2⟩
theorem Row.len: ∀ {a b:Int} {l:List SpanT18},Row a b l→(l.length:Int)≤b-a
 | a,b,[],h=>by have h':a=b:=h;show (0:Int)≤_;omega
 | a,b,s::l,h=>by
  have:=Row.len h.2.2
  have h2:=h.2.1
  show ((l.length+1:Nat):Int)≤_
  omega
structure SpOk (n:Int) (ss:List SpanT18):Prop where
 row:Row 0 n ss
 tree: ∀s∈ss,TOk s.2.2.1
theorem SpOk.push {n m:Int} {ss:List SpanT18} (h:SpOk n ss) (hm:n<m) {ns:List NodeT17} (hn:TOk ns):SpOk m (ss ++ [(n,m,ns,())]):=by
 have h1:Row n m [(n,m,ns,())]:=⟨rfl,hm,rfl⟩
 refine ⟨Row.append h1 h.row,fun s hs=> ?_⟩
 rcases List.mem_append.1 hs with hs | hs
 ·exact h.tree s hs
 ·have e:=List.mem_singleton.1 hs
  subst e
  exact hn
theorem TOk.nil:TOk []:=⟨Nat.zero_le _,fun x hx=>nomatch hx⟩
theorem Gv.dfa {g:GrT} (hg:Gv g): ∃d u,G25 K0 (g.1,())=some (d,u)∧DfaOk g.1.length d∧d.2.1.length<100000:=by
 have h:=hg.giv.dfa
 unfold dfaOf at h
 match e:G25 K0 (g.1,()),h with
 | some (d,x,u),h=>
  simp only [Bool.and_eq_true,decide_eq_true_eq] at h
  exact ⟨d,(x,u),rfl,chkD_ok h.2.1,h.2.2⟩
theorem G128_ok {g:GrT} (hg:Gv g) {bs:List Int} (hb: ∀x∈bs,0≤x∧x<256) (hl:bs.length<10000) :
  Ok (G128 K0 (g,bs,0,())) fun r=>SpOk bs.length r.1:=by
 obtain ⟨d,⟨x,u⟩,he,hd,hn⟩:=hg.dfa
 refine Ok.eq he ?_
 refine Ok.bind (Q:=fun r=>SpOk bs.length r.1) ?_ ?_
 ·refine Ok.iter (fun p=> ∃(i:Nat) (ss:List SpanT18),i≤bs.length∧SpOk i ss∧p=(bs,0,(i:Int),g,ss,d,()))
   (fun p=>((bs.length:Int)-p.2.2.1).toNat) ?_ K0 _ ⟨0,[],by omega,⟨rfl,fun s hs=>nomatch hs⟩,rfl⟩ (by show ((bs.length:Int)-0).toNat<200000;omega)
  rintro _ ⟨i,ss,hi,hss,rfl⟩
  have hlen:=hss.row.len
  have hw0:w64 (0+(i:Int))=(i:Int):=by rw [Int.zero_add];exact w64_ok (by omega) (by omega)
  have hw:w64 ((i:Int)+1)=((i+1:Nat):Int):=by rw [w64_ok (by omega) (by omega)];rfl
  refine Ok.dec (p:=(i:Int)<(bs.length:Int)) (fun hlt=> ?_) (fun hge=>Ok.some ?_)
  ·refine Ok.bind (Q:=fun p=> ∃(j:Nat) (ss:List SpanT18),i<j∧j≤bs.length∧SpOk j ss∧p=(bs,0,(j:Int),g,ss,d,())) ?_ ?_
   ·refine Ok.hi (by omega) (by omega) ?_
    have hdl:(slC (some (i:Int)) none (Int.toNat (i:Int)) bs.length bs).length=bs.length-i:=by
     show (bs.drop i).length=_
     rw [List.length_drop]
    refine Ok.bind (G132_ok hg hd hn (bs:=slC (some (i:Int)) none (Int.toNat (i:Int)) bs.length bs) (fun x hx=>hb x (List.mem_of_mem_drop (i:=i) hx)) (by omega)) ?_
    rintro ⟨ns,m,u⟩ ⟨h1,h2,h3⟩
    rw [hdl] at h2
    have h1':0≤m:=h1
    have h2':m≤((bs.length-i:Nat):Int):=h2
    have h3':ns.length≤300:=h3
    refine Ok.cond (fun _=> ?_) (fun e=> ?_)
    ·refine Ok.room (by show ss.length+1≤_;omega) (by omega) (Ok.some ⟨i+1,ss ++ [((i:Int),((i+1:Nat):Int),[],())],by omega,by omega,hss.push (by omega) TOk.nil,?_⟩)
     rw [hw0,hw]
    ·have e2:m≠0:=beq_eq_false_iff_ne.1 e
     refine Ok.eq (G131_eq ns _ (by omega) K0 (by show _<200000;omega)) ?_
     have hwm:w64 ((i:Int)+m)=((i+m.toNat:Nat):Int):=by rw [w64_ok (by omega) (by omega)];omega
     refine Ok.room (by show ss.length+1≤_;omega) (by omega) (Ok.some ⟨i+m.toNat,ss ++ [((i:Int),((i+m.toNat:Nat):Int),ns.map (mvN (i:Int)),())],by omega,by omega,hss.push (by omega) (TOk.mv h3 _),?_⟩)
     rw [hw0,hwm]
   ·rintro _ ⟨j,ss2,hj,hj2,hs2,rfl⟩
    refine Ok.some ⟨⟨j,ss2,hj2,hs2,rfl⟩,?_⟩
    show ((bs.length:Int)-(j:Int)).toNat<((bs.length:Int)-(i:Int)).toNat
    omega
  ·have e:i=bs.length:=by omega
   subst e
   exact hss
 ·rintro ⟨ss,u⟩ h
  exact Ok.some h
theorem G117_ok {a:Int} {tx:List Int} (ha:0≤a) (ha2:a<256) (htx: ∀x∈tx,0≤x∧x<256) (hl:tx.length≤14) :
  Ok (G117 K0 (a,tx,())) fun r=> ∃(n:Nat) (ss:List SpanT18),n≤280∧SpOk n ss∧r=(ss,(n:Int),()):=by
 refine Ok.bind (G127_ok ha ha2 htx (by omega) K0 (by show _<200000;omega)) ?_
 rintro ⟨bs,u⟩ ⟨hb,hbl⟩
 have hbl':bs.length≤20*tx.length:=hbl
 obtain ⟨g,hm,hg,he⟩:=G12_K0 a.toNat (by omega)
 rw [Int.toNat_of_nonneg ha] at he
 refine Ok.eq he ?_
 refine Ok.bind (G128_ok (Gv.of hg hm) hb (by omega)) ?_
 rintro ⟨ss,u⟩ hs
 exact Ok.some ⟨bs.length,ss,by omega,hs,rfl⟩
end Go.Pi
namespace Go.Pi
set_option linter.unusedVariables false
section
variable {τ:Type}
abbrev Sp (τ:Type):=Int×Int×List τ×Unit
def wetS (s:Sp τ):Bool:=s.2.2.1.isEmpty
def mg (a b:Sp τ):Bool:=wetS a&&(wetS b&&a.2.1==b.1)
def jn (a b:Sp τ):Sp τ:=(a.1,b.2.1,a.2.2.1,())
def consM (s:Sp τ):List (Sp τ)→List (Sp τ)
 | []=> [s]
 | x::l=>bif mg s x then jn s x::l else s::x::l
def mergeR:List (Sp τ)→List (Sp τ)
 | []=> []
 | s::l=>consM s (mergeR l)
theorem mg_jn_l {a b c:Sp τ} (h:mg a b=true):mg (jn a b) c=mg b c:=by
 unfold mg at h ⊢
 simp only [Bool.and_eq_true] at h
 have h1:wetS (jn a b)=true:=h.1
 rw [h1,h.2.1]
 rfl
theorem mg_jn_r {a b c:Sp τ} (h:mg b c=true):mg a (jn b c)=mg a b:=by
 unfold mg at h ⊢
 simp only [Bool.and_eq_true] at h
 have h1:wetS (jn b c)=true:=h.1
 rw [h1,h.1]
 rfl
theorem consM_jn {s x:Sp τ} (h:mg s x=true): ∀Z:List (Sp τ),consM s (consM x Z)=consM (jn s x) Z
 | []=>by
  show (bif mg s x then [jn s x] else [s,x])= [jn s x]
  rw [h];rfl
 | z::l=>by
  show consM s (bif mg x z then jn x z::l else x::z::l)=bif mg (jn s x) z then jn (jn s x) z::l else jn s x::z::l
  rw [mg_jn_l h]
  cases hz:mg x z with
  | true=>
   show (bif mg s (jn x z) then jn s (jn x z)::l else s::jn x z::l)=jn (jn s x) z::l
   rw [mg_jn_r hz,h];rfl
  | false=>
   show (bif mg s x then jn s x::z::l else s::x::z::l)=jn s x::z::l
   rw [h];rfl
theorem foldr_consM (Y:List (Sp τ)) (s:Sp τ): ∀L:List (Sp τ),(consM s L).foldr consM Y=consM s (L.foldr consM Y)
 | []=>rfl
 | x::l=>by
  show (bif mg s x then jn s x::l else s::x::l).foldr consM Y=consM s (consM x (l.foldr consM Y))
  cases h:mg s x with
  | true=>exact (consM_jn h _).symm
  | false=>rfl
theorem foldr_mergeR (Y:List (Sp τ)): ∀A:List (Sp τ),(mergeR A).foldr consM Y=A.foldr consM Y
 | []=>rfl
 | s::A=>by
  show (consM s (mergeR A)).foldr consM Y=consM s (A.foldr consM Y)
  rw [foldr_consM,foldr_mergeR Y A]
theorem mergeR_foldr: ∀A:List (Sp τ),mergeR A=A.foldr consM []
 | []=>rfl
 | s::A=>congrArg (consM s) (mergeR_foldr A)
theorem mergeR_append (A B:List (Sp τ)):mergeR (A++B)=A.foldr consM (mergeR B):=by
 rw [mergeR_foldr,List.foldr_append, ← mergeR_foldr]
def stepM (out:List (Sp τ)) (s:Sp τ):List (Sp τ):=match out with
 | []=> [s]
 | [x]=>bif mg x s then [jn x s] else [x,s]
 | x::y::l=>x::stepM (y::l) s
def NormM:List (Sp τ)→Prop
 | []=>True
 | [_]=>True
 | x::y::l=>mg x y=false∧NormM (y::l)
theorem stepM_head (s y:Sp τ) (l:List (Sp τ)): ∃z m,stepM (y::l) s=z::m∧ ∀x,mg x z=mg x y:=by
 cases l with
 | nil=>
  show ∃z m,(bif mg y s then [jn y s] else [y,s])=z::m∧_
  cases h:mg y s with
  | true=>exact ⟨_,_,rfl,fun x=>mg_jn_r h⟩
  | false=>exact ⟨_,_,rfl,fun x=>rfl⟩
 | cons a l=>exact ⟨y,_,rfl,fun x=>rfl⟩
theorem stepM_foldr (s:Sp τ): ∀ {out:List (Sp τ)},NormM out→stepM out s=out.foldr consM [s]
 | [],_=>rfl
 | [x],_=>rfl
 | x::y::l,h=>by
  show x::stepM (y::l) s=consM x ((y::l).foldr consM [s])
  rw [← stepM_foldr s h.2]
  obtain ⟨z,m,e,k⟩:=stepM_head s y l
  rw [e]
  show x::z::m=bif mg x z then jn x z::m else x::z::m
  rw [k,h.1];rfl
theorem norm_consM (s:Sp τ): ∀ {L:List (Sp τ)},NormM L→NormM (consM s L)
 | [],_=>trivial
 | x::l,h=>by
  show NormM (bif mg s x then jn s x::l else s::x::l)
  cases e:mg s x with
  | false=>exact ⟨e,h⟩
  | true=>
   cases l with
   | nil=>trivial
   | cons y l=>exact ⟨by rw [mg_jn_l e];exact h.1,h.2⟩
theorem norm_mergeR: ∀A:List (Sp τ),NormM (mergeR A)
 | []=>trivial
 | s::A=>norm_consM s (norm_mergeR A)
theorem stepM_merge (A:List (Sp τ)) (s:Sp τ):stepM (mergeR A) s=mergeR (A ++ [s]):=by
 rw [stepM_foldr s (norm_mergeR A),foldr_mergeR,mergeR_append];rfl
end
end Go.Pi
namespace Go.Pi
set_option linter.unusedVariables false
set_option maxRecDepth 20000
theorem Ok.atV {α β:Type} {l:List α} {z:Int} {v:α} {f:α→Option β} {R:β→Prop} (h0:0≤z) (h:l[z.toNat]? = Option.some v) (k:Ok (f v) R):Ok ((at? l z).bind f) R:=by
 have e:at? l z=Option.some v:=by unfold at?;rw [if_pos h0];exact h
 exact Ok.eq e k
theorem Ok.getV {α β:Type} {l:List α} {z:Nat} {v:α} {f:α→Option β} {R:β→Prop} (h:l[z]? = Option.some v) (k:Ok (f v) R):Ok ((List.get?Internal l z).bind f) R:=by
 have e:List.get?Internal l z=l[z]? := rfl
 exact Ok.eq (e.trans h) k
theorem Ok.val {α:Type} {m:Option α} {a:α} (h:Ok m fun r=>r=a):m=Option.some a:=by
 obtain ⟨r,h1,h2⟩:=h
 rw [h1,h2]
theorem wet_eq (s:SpanT18):(((s.2.2.1.length:Int)==(0:Int)):Bool)=wetS s:=by
 unfold wetS
 cases s.2.2.1 with
 | nil=>rfl
 | cons a l=>rw [List.isEmpty_cons,beq_eq_false_iff_ne,List.length_cons];omega
theorem G129_eq (k:Nat) (s:SpanT18):G129 k (s,())=some (wetS s,()):=by
 show some (((s.2.2.1.length:Int)==(0:Int)),())=_
 rw [wet_eq]
theorem stepM_snoc {τ:Type} (s x:Sp τ): ∀A:List (Sp τ),stepM (A ++ [x]) s=A++(bif mg x s then [jn x s] else [x,s])
 | []=>rfl
 | [a]=>rfl
 | a::b::A=>by
  show a::stepM ((b::A) ++ [x]) s=_
  rw [stepM_snoc s x (b::A)]
  rfl
theorem consM_len {τ:Type} (s:Sp τ) (l:List (Sp τ)):(consM s l).length≤l.length+1:=by
 cases l with
 | nil=>exact Nat.le_refl _
 | cons x l=>
  show (bif mg s x then jn s x::l else s::x::l).length≤_
  cases mg s x
  ·exact Nat.le_refl _
  ·exact Nat.le_succ _
theorem mergeR_len {τ:Type}: ∀l:List (Sp τ),(mergeR l).length≤l.length
 | []=>Nat.le_refl _
 | s::l=>Nat.le_trans (consM_len s _) (Nat.succ_le_succ (mergeR_len l))
theorem stepM_take (ss:List SpanT18) {i:Nat} {s:SpanT18} (h:ss[i]? = some s):mergeR (ss.take (i+1))=stepM (mergeR (ss.take i)) s:=by
 rw [stepM_merge,List.take_add_one,h];rfl
theorem set_snoc {α:Type} (x y:α): ∀A:List α,(A ++ [x]).set A.length y=A ++ [y]
 | []=>rfl
 | a::A=>congrArg (a :: ·) (set_snoc x y A)
theorem get_snoc {α:Type} (x:α) (A:List α):(A ++ [x])[A.length]? = some x:=by
 rw [List.getElem?_append_right (Nat.le_refl _),Nat.sub_self];rfl
theorem nil_or_snoc {α:Type} (l:List α):l= [] ∨ ∃A x,l=A ++ [x]:=by
 rcases List.eq_nil_or_concat l with h | ⟨A,x,h⟩
 ·exact Or.inl h
 ·exact Or.inr ⟨A,x,by simpa using h⟩
theorem G120_ok (ss:List SpanT18) (hl:ss.length<100000) (k:Nat) (hk:ss.length<k):G120 k (ss,())=some (mergeR ss,()):=by
 refine Ok.val ?_
 refine Ok.bind (Q:=fun (r:List SpanT18×Unit)=>r=(mergeR ss,())) ?_ ?_
 ·refine Ok.iter (fun p=> ∃i:Nat,i≤ss.length∧p=(ss,(ss.length:Int),(i:Int),mergeR (ss.take i),())) (fun p=>((ss.length:Int)-p.2.2.1).toNat) ?_ k _ ⟨0,by omega,rfl⟩ (by show ((ss.length:Int)-0).toNat<k;omega)
  rintro _ ⟨i,hi,rfl⟩
  have hw:w64 ((i:Int)+1)=((i+1:Nat):Int):=by rw [w64_ok (by omega) (by omega)];rfl
  refine Ok.dec (p:=(i:Int)<(ss.length:Int)) (fun hlt=> ?_) (fun hge=>Ok.some ?_)
  ·refine Ok.bind (Q:=fun p=>p=(ss,(ss.length:Int),(i:Int),mergeR (ss.take (i+1)),())) ?_ ?_
   ·refine Ok.at (by omega) hlt fun s hs hsi=> ?_
    have hnx:=stepM_take ss hsi
    have hol:=mergeR_len (ss.take i)
    rw [List.length_take] at hol
    have e2:ss.take (((i:Int).toNat)+1)=ss.take (i+1):=rfl
    have e3:ss.take ((i:Int).toNat)=ss.take i:=rfl
    rw [e2,e3] at hnx
    generalize mergeR (ss.take i)=out at hnx hol ⊢
    rcases nil_or_snoc out with rfl | ⟨A,x,rfl⟩
    ·refine Ok.eq (a:=(w64 (((([]:List SpanT18).length:Nat):Int)-1),ss,(ss.length:Int),(i:Int),false,([]:List SpanT18),s,())) rfl ?_
     refine Ok.ff rfl ?_
     refine Ok.room (by show 0+1≤_;omega) (by omega) (Ok.some ?_)
     rw [hnx];rfl
    ·have hal:(A ++ [x]).length=A.length+1:=by rw [List.length_append];rfl
     have hwl:w64 (((A ++ [x]).length:Int)-1)=(A.length:Int):=by rw [hal,w64_ok (by omega) (by omega)];omega
     have hg:(A ++ [x])[((A.length:Int)).toNat]? = some x:=get_snoc x A
     rw [stepM_snoc] at hnx
     refine Ok.bind (Q:=fun p=>p=((A.length:Int),ss,(ss.length:Int),(i:Int),mg x s,A ++ [x],s,())) ?_ ?_
     ·rw [hwl]
      refine Ok.tt (decide_eq_true (by omega)) ?_
      refine Ok.eq (G129_eq k s) ?_
      unfold mg
      refine Ok.cond (fun h1=> ?_) (fun h1=>Ok.some (by rw [h1,Bool.false_and,Bool.and_false]))
      refine Ok.atV (by omega) hg (Ok.getV hg ?_)
      refine Ok.eq (G129_eq k x) ?_
      refine Ok.cond (fun h2=> ?_) (fun h2=>Ok.some (by rw [h2,Bool.false_and]))
      exact Ok.atV (by omega) hg (Ok.getV hg (Ok.some (by rw [h1,h2,Bool.true_and,Bool.true_and])))
     ·rintro _ rfl
      refine Ok.cond (fun h=> ?_) (fun h=> ?_)
      ·refine Ok.atV (by omega) hg (Ok.getV hg (Ok.some ?_))
       rw [h] at hnx
       have e:List.set (A ++ [x]) (Int.toNat (A.length:Int)) (x.1,s.2.1,x.2.2.1,())=_:=set_snoc x (x.1,s.2.1,x.2.2.1,()) A
       rw [hnx,e];rfl
      ·rw [h] at hnx
       refine Ok.room (by rw [hal];show A.length+1+1≤_;omega) (by omega) (Ok.some ?_)
       rw [hnx,List.append_assoc];rfl
   ·rintro _ rfl
    refine Ok.some ⟨⟨i+1,by omega,?_⟩,?_⟩
    ·show (ss,(ss.length:Int),w64 ((i:Int)+1),mergeR (ss.take (i+1)),())=_
     rw [hw]
    ·show ((ss.length:Int)-w64 ((i:Int)+1)).toNat<((ss.length:Int)-(i:Int)).toNat
     rw [hw];omega
  ·have e:i=ss.length:=by omega
   subst e
   rw [List.take_length]
 ·rintro _ rfl
  exact Ok.some rfl
def clip1 (a b:Int) (s:SpanT18):List SpanT18:=
 if max s.1 a≥min s.2.1 b then [] else bif wetS s then [(max s.1 a,min s.2.1 b,[],())] else [s]
def clipL (a b:Int):List SpanT18→List SpanT18
 | []=> []
 | s::l=>clip1 a b s++clipL a b l
theorem clip1_len (a b:Int) (s:SpanT18):(clip1 a b s).length≤1:=by
 unfold clip1
 split
 ·exact Nat.zero_le _
 ·cases wetS s<;>exact Nat.le_refl _
theorem clipL_len (a b:Int): ∀ss:List SpanT18,(clipL a b ss).length≤ss.length
 | []=>Nat.le_refl _
 | s::l=>by
  have h1:=clip1_len a b s
  have h2:=clipL_len a b l
  show (clip1 a b s++clipL a b l).length≤l.length+1
  rw [List.length_append];omega
theorem clipL_append (a b:Int) (m:List SpanT18): ∀l:List SpanT18,clipL a b (l++m)=clipL a b l++clipL a b m
 | []=>rfl
 | s::l=>by
  show clip1 a b s++clipL a b (l++m)=clip1 a b s++clipL a b l++clipL a b m
  rw [clipL_append a b m l,List.append_assoc]
theorem clipL_take (a b:Int) (ss:List SpanT18) {i:Nat} {s:SpanT18} (h:ss[i]? = some s):clipL a b (ss.take (i+1))=clipL a b (ss.take i)++clip1 a b s:=by
 rw [List.take_add_one,h,clipL_append]
 show _++(clip1 a b s ++ [])=_
 rw [List.append_nil]
theorem max_comm' (a b:Int):(if (true=true) then (if b>a then b else a) else (if b<a then b else a))=max a b:=by
 rw [if_pos rfl];omega
theorem min_comm' (a b:Int):(if (false=true) then (if b>a then b else a) else (if b<a then b else a))=min a b:=by
 rw [if_neg (by decide)];omega
theorem G118_ok (ss:List SpanT18) (a b:Int) (hl:ss.length<100000) (k:Nat) (hk:ss.length<k):G118 k (ss,a,b,())=some (mergeR (clipL a b ss),()):=by
 refine Ok.val ?_
 refine Ok.bind (Q:=fun (r:List SpanT18×Unit)=>r=(clipL a b ss,())) ?_ ?_
 ·refine Ok.iter (fun p=> ∃i:Nat,i≤ss.length∧p=(a,b,ss,(ss.length:Int),(i:Int),clipL a b (ss.take i),())) (fun p=>((ss.length:Int)-p.2.2.2.2.1).toNat) ?_ k _ ⟨0,by omega,rfl⟩ (by show ((ss.length:Int)-0).toNat<k;omega)
  rintro _ ⟨i,hi,rfl⟩
  have hw:w64 ((i:Int)+1)=((i+1:Nat):Int):=by rw [w64_ok (by omega) (by omega)];rfl
  refine Ok.dec (p:=(i:Int)<(ss.length:Int)) (fun hlt=> ?_) (fun hge=>Ok.some ?_)
  ·refine Ok.at (by omega) hlt fun s hs hsi=> ?_
   have hnx:=clipL_take a b ss hsi
   have hol:=clipL_len a b (ss.take i)
   rw [List.length_take] at hol
   rw [max_comm',min_comm']
   refine Ok.bind (Q:=fun p=>p=(a,b,ss,(ss.length:Int),(i:Int),clipL a b (ss.take (i+1)),())) ?_ ?_
   ·have e2:ss.take (((i:Int).toNat)+1)=ss.take (i+1):=rfl
    have e3:ss.take ((i:Int).toNat)=ss.take i:=rfl
    rw [e2,e3] at hnx
    rw [hnx]
    unfold clip1
    refine Ok.dec (p:=max s.1 a≥min s.2.1 b) (fun h=>Ok.some ?_) (fun h=> ?_)
    ·rw [if_pos h,List.append_nil]
    ·rw [if_neg h]
     refine Ok.eq (G129_eq k s) ?_
     refine Ok.bind (Q:=fun p=>p=(a,b,ss,(ss.length:Int),(i:Int),clipL a b (ss.take i)++(bif wetS s then [(max s.1 a,min s.2.1 b,[],())] else [s]),())) ?_ ?_
     ·refine Ok.cond (fun h1=>Ok.room (by show _+1≤_;omega) (by omega) (Ok.some ?_)) (fun h1=>Ok.room (by show _+1≤_;omega) (by omega) (Ok.some ?_))
      ·rw [h1];rfl
      ·rw [h1];rfl
     ·rintro _ rfl
      exact Ok.some rfl
   ·rintro _ rfl
    refine Ok.some ⟨⟨i+1,by omega,?_⟩,?_⟩
    ·show (a,b,ss,(ss.length:Int),w64 ((i:Int)+1),clipL a b (ss.take (i+1)),())=_
     rw [hw]
    ·show ((ss.length:Int)-w64 ((i:Int)+1)).toNat<((ss.length:Int)-(i:Int)).toNat
     rw [hw];omega
  ·have e:i=ss.length:=by omega
   subst e
   rw [List.take_length]
 ·rintro _ rfl
  have:=clipL_len a b ss
  exact Ok.eq (G120_ok _ (by omega) k (by omega)) (Ok.some rfl)
end Go.Pi
namespace Go.Pi
set_option linter.unusedVariables false
set_option maxRecDepth 20000
theorem wet_gt (s:SpanT18):decide ((s.2.2.1.length:Int)>(0:Int)) = !wetS s:=by
 rw [← wet_eq]
 cases s.2.2.1 with
 | nil=>rfl
 | cons a l=>
  have h: ¬(((a::l).length:Int)=0):=by rw [List.length_cons];omega
  rw [beq_eq_false_iff_ne.2 h]
  exact decide_eq_true (by rw [List.length_cons];omega)
def fN1 (a:Int) (s:SpanT18):Bool := !wetS s&&decide (s.1≥a)
def fP1 (a:Int) (s:SpanT18):Bool := !wetS s&&decide (s.1<a)
def nextS (a:Int) (ss:List SpanT18):Option SpanT18:=ss.find? (fN1 a)
def prevS (a:Int) (ss:List SpanT18):Option SpanT18:=ss.reverse.find? (fP1 a)
def resS:Option SpanT18→SpanT18×Bool×Unit
 | some s=>(s,true,())
 | none=>((0,0,[],()),false,())
theorem drop_cons {α:Type} {l:List α} {i:Nat} {v:α} (h:l[i]? = some v):l.drop i=v::l.drop (i+1):=by
 obtain ⟨h1,h2⟩:=List.getElem?_eq_some_iff.1 h
 rw [List.drop_eq_getElem_cons h1,h2]
theorem find_drop {p:SpanT18→Bool} {ss:List SpanT18} {i:Nat} {s:SpanT18} (h:ss[i]? = some s):(ss.drop i).find? p=bif p s then some s else (ss.drop (i+1)).find? p:=by
 rw [drop_cons h,List.find?_cons]
 cases p s<;>rfl
theorem find_take {p:SpanT18→Bool} {ss:List SpanT18} {i:Nat} {s:SpanT18} (h:ss[i]? = some s):(ss.take (i+1)).reverse.find? p=bif p s then some s else (ss.take i).reverse.find? p:=by
 rw [List.take_add_one,h,List.reverse_append]
 show List.find? p (s::(ss.take i).reverse)=_
 rw [List.find?_cons]
 cases p s<;>rfl
theorem G121_ok (ss:List SpanT18) (a:Int) (hl:ss.length<100000) (k:Nat) (hk:ss.length<k):G121 k (ss,a,())=some (resS (nextS a ss)):=by
 refine Ok.val ?_
 refine Ok.bind (Q:=fun r=>(nextS a ss=none∧r=Sum.inl (0,0,())) ∨ ∃s,nextS a ss=some s∧r=Sum.inr (true,s,())) ?_ ?_
 ·refine Ok.iter (fun p=> ∃i:Nat,i≤ss.length∧nextS a ss=(ss.drop i).find? (fN1 a)∧p=(a,ss,(ss.length:Int),(i:Int),0,0,())) (fun p=>((ss.length:Int)-p.2.2.2.1).toNat) ?_ k _ ⟨0,by omega,rfl,rfl⟩ (by show ((ss.length:Int)-0).toNat<k;omega)
  rintro _ ⟨i,hi,hn,rfl⟩
  have hw:w64 ((i:Int)+1)=((i+1:Nat):Int):=by rw [w64_ok (by omega) (by omega)];rfl
  refine Ok.dec (p:=(i:Int)<(ss.length:Int)) (fun hlt=> ?_) (fun hge=>Ok.some (Or.inl ⟨?_,rfl⟩))
  ·refine Ok.at (by omega) hlt fun s hs hsi=> ?_
   have hsi':ss[i]? = some s:=hsi
   rw [find_drop hsi'] at hn
   refine Ok.bind (Q:=fun p=>p=(a,ss,(ss.length:Int),(i:Int),fN1 a s,0,0,s,())) ?_ ?_
   ·refine Ok.eq (G129_eq k s) ?_
    unfold fN1
    refine Ok.cond (fun h=>Ok.some ?_) (fun h=>Ok.some ?_)
    ·rw [h,Bool.true_and]
    ·rw [h,Bool.false_and]
   ·rintro _ rfl
    refine Ok.cond (fun h=>Ok.some (Or.inr ⟨s,?_,rfl⟩)) (fun h=>Ok.some ⟨⟨i+1,by omega,?_,?_⟩,?_⟩)
    ·rw [hn,h];rfl
    ·rw [hn,h];rfl
    ·show (a,ss,(ss.length:Int),w64 ((i:Int)+1),0,0,())=_
     rw [hw]
    ·show ((ss.length:Int)-w64 ((i:Int)+1)).toNat<((ss.length:Int)-(i:Int)).toNat
     rw [hw];omega
  ·have e:i=ss.length:=by omega
   subst e
   rw [hn,List.drop_length];rfl
 ·rintro _ (⟨h,rfl⟩ | ⟨s,h,rfl⟩)
  ·exact Ok.some (by rw [h];rfl)
  ·exact Ok.some (by rw [h];rfl)
theorem G122_ok (ss:List SpanT18) (a:Int) (hl:ss.length<100000) (k:Nat) (hk:ss.length<k):G122 k (ss,a,())=some (resS (nextS a ss)):=by
 refine Ok.val ?_
 refine Ok.bind (Q:=fun r=>(nextS a ss=none∧r=Sum.inl (0,0,())) ∨ ∃s,nextS a ss=some s∧r=Sum.inr (true,s,())) ?_ ?_
 ·refine Ok.iter (fun p=> ∃i:Nat,i≤ss.length∧nextS a ss=(ss.drop i).find? (fN1 a)∧p=(ss,a,(i:Int),0,0,())) (fun p=>((ss.length:Int)-p.2.2.1).toNat) ?_ k _ ⟨0,by omega,rfl,rfl⟩ (by show ((ss.length:Int)-0).toNat<k;omega)
  rintro _ ⟨i,hi,hn,rfl⟩
  have hw:w64 ((i:Int)+1)=((i+1:Nat):Int):=by rw [w64_ok (by omega) (by omega)];rfl
  refine Ok.dec (p:=(i:Int)<(ss.length:Int)) (fun hlt=> ?_) (fun hge=>Ok.some (Or.inl ⟨?_,rfl⟩))
  ·obtain ⟨s,hs⟩: ∃s,ss[i]? = some s:=⟨_,List.getElem?_eq_getElem (by omega)⟩
   rw [find_drop hs] at hn
   refine Ok.bind (Q:=fun p=>p=(ss,a,(i:Int),fN1 a s,0,0,())) ?_ ?_
   ·refine Ok.atV (by omega) hs ?_
    rw [wet_gt]
    unfold fN1
    refine Ok.cond (fun h=>Ok.atV (by omega) hs (Ok.some ?_)) (fun h=>Ok.some ?_)
    ·rw [h,Bool.true_and]
    ·rw [h,Bool.false_and]
   ·rintro _ rfl
    refine Ok.cond (fun h=>Ok.atV (by omega) hs (Ok.some (Or.inr ⟨s,?_,rfl⟩))) (fun h=>Ok.some ⟨⟨i+1,by omega,?_,?_⟩,?_⟩)
    ·rw [hn,h];rfl
    ·rw [hn,h];rfl
    ·show (ss,a,w64 ((i:Int)+1),0,0,())=_
     rw [hw]
    ·show ((ss.length:Int)-w64 ((i:Int)+1)).toNat<((ss.length:Int)-(i:Int)).toNat
     rw [hw];omega
  ·have e:i=ss.length:=by omega
   subst e
   rw [hn,List.drop_length];rfl
 ·rintro _ (⟨h,rfl⟩ | ⟨s,h,rfl⟩)
  ·exact Ok.some (by rw [h];rfl)
  ·exact Ok.some (by rw [h];rfl)
theorem G123_ok (ss:List SpanT18) (a:Int) (hl:ss.length<100000) (k:Nat) (hk:ss.length<k):G123 k (ss,a,())=some (resS (prevS a ss)):=by
 refine Ok.val ?_
 have hw0:w64 ((ss.length:Int)-1)=(ss.length:Int)-1:=w64_ok (by omega) (by omega)
 refine Ok.bind (Q:=fun r=>(prevS a ss=none∧r=Sum.inl (0,0,())) ∨ ∃s,prevS a ss=some s∧r=Sum.inr (true,s,())) ?_ ?_
 ·refine Ok.iter (fun p=> ∃i:Nat,i≤ss.length∧prevS a ss=(ss.take i).reverse.find? (fP1 a)∧p=(ss,a,(i:Int)-1,0,0,())) (fun p=>(p.2.2.1+1).toNat) ?_ k _ ⟨ss.length,by omega,by rw [List.take_length];rfl,by rw [hw0]⟩ (by show (w64 ((ss.length:Int)-1)+1).toNat<k;rw [hw0];omega)
  rintro _ ⟨i,hi,hn,rfl⟩
  refine Ok.dec (p:=(i:Int)-1≥0) (fun hge=> ?_) (fun hlt=>Ok.some (Or.inl ⟨?_,rfl⟩))
  ·obtain ⟨j,rfl⟩: ∃j,i=j+1:=⟨i-1,by omega⟩
   have hj:(((j+1:Nat):Int)-1)=(j:Int):=by omega
   have hw:w64 ((j:Int)-1)=(j:Int)-1:=w64_ok (by omega) (by omega)
   rw [hj]
   obtain ⟨s,hs⟩: ∃s,ss[j]? = some s:=⟨_,List.getElem?_eq_getElem (by omega)⟩
   rw [find_take hs] at hn
   refine Ok.bind (Q:=fun p=>p=(ss,a,(j:Int),fP1 a s,0,0,())) ?_ ?_
   ·refine Ok.atV (by omega) hs (Ok.eq (G129_eq k s) ?_)
    unfold fP1
    refine Ok.cond (fun h=>Ok.atV (by omega) hs (Ok.some ?_)) (fun h=>Ok.some ?_)
    ·rw [h,Bool.true_and]
    ·rw [h,Bool.false_and]
   ·rintro _ rfl
    refine Ok.cond (fun h=>Ok.atV (by omega) hs (Ok.some (Or.inr ⟨s,?_,rfl⟩))) (fun h=>Ok.some ⟨⟨j,by omega,?_,?_⟩,?_⟩)
    ·rw [hn,h];rfl
    ·rw [hn,h];rfl
    ·show (ss,a,w64 ((j:Int)-1),0,0,())=_
     rw [hw]
    ·show (w64 ((j:Int)-1)+1).toNat<((j:Int)+1).toNat
     rw [hw];omega
  ·have e:i=0:=by omega
   subst e
   exact hn
 ·rintro _ (⟨h,rfl⟩ | ⟨s,h,rfl⟩)
  ·exact Ok.some (by rw [h];rfl)
  ·exact Ok.some (by rw [h];rfl)
theorem G124_ok (ss:List SpanT18) (a:Int) (hl:ss.length<100000) (k:Nat) (hk:ss.length<k):G124 k (ss,a,())=some (resS (prevS a ss)):=by
 refine Ok.val ?_
 have hw0:w64 ((ss.length:Int)-1)=(ss.length:Int)-1:=w64_ok (by omega) (by omega)
 refine Ok.bind (Q:=fun r=>(prevS a ss=none∧r=Sum.inl (0,0,())) ∨ ∃s,prevS a ss=some s∧r=Sum.inr (true,s,())) ?_ ?_
 ·refine Ok.iter (fun p=> ∃i:Nat,i≤ss.length∧prevS a ss=(ss.take i).reverse.find? (fP1 a)∧p=(ss,a,(i:Int)-1,0,0,())) (fun p=>(p.2.2.1+1).toNat) ?_ k _ ⟨ss.length,by omega,by rw [List.take_length];rfl,by rw [hw0]⟩ (by show (w64 ((ss.length:Int)-1)+1).toNat<k;rw [hw0];omega)
  rintro _ ⟨i,hi,hn,rfl⟩
  refine Ok.dec (p:=(i:Int)-1≥0) (fun hge=> ?_) (fun hlt=>Ok.some (Or.inl ⟨?_,rfl⟩))
  ·obtain ⟨j,rfl⟩: ∃j,i=j+1:=⟨i-1,by omega⟩
   have hj:(((j+1:Nat):Int)-1)=(j:Int):=by omega
   have hw:w64 ((j:Int)-1)=(j:Int)-1:=w64_ok (by omega) (by omega)
   rw [hj]
   obtain ⟨s,hs⟩: ∃s,ss[j]? = some s:=⟨_,List.getElem?_eq_getElem (by omega)⟩
   rw [find_take hs] at hn
   refine Ok.bind (Q:=fun p=>p=(ss,a,(j:Int),fP1 a s,0,0,())) ?_ ?_
   ·refine Ok.atV (by omega) hs ?_
    rw [wet_gt]
    unfold fP1
    refine Ok.cond (fun h=>Ok.atV (by omega) hs (Ok.some ?_)) (fun h=>Ok.some ?_)
    ·rw [h,Bool.true_and]
    ·rw [h,Bool.false_and]
   ·rintro _ rfl
    refine Ok.cond (fun h=>Ok.atV (by omega) hs (Ok.some (Or.inr ⟨s,?_,rfl⟩))) (fun h=>Ok.some ⟨⟨j,by omega,?_,?_⟩,?_⟩)
    ·rw [hn,h];rfl
    ·rw [hn,h];rfl
    ·show (ss,a,w64 ((j:Int)-1),0,0,())=_
     rw [hw]
    ·show (w64 ((j:Int)-1)+1).toNat<((j:Int)+1).toNat
     rw [hw];omega
  ·have e:i=0:=by omega
   subst e
   exact hn
 ·rintro _ (⟨h,rfl⟩ | ⟨s,h,rfl⟩)
  ·exact Ok.some (by rw [h];rfl)
  ·exact Ok.some (by rw [h];rfl)
theorem G125_ok (ss:List SpanT18) (hl:ss.length<100000) (k:Nat) (hk:ss.length<k) (hk2:300<k) (ht: ∀s∈ss,TOk s.2.2.1):G125 k (ss,())=some (mergeR ss,()):=by
 refine Ok.val ?_
 refine Ok.bind (Q:=fun (r:List SpanT18×Unit)=>r=(mergeR ss,())) ?_ ?_
 ·refine Ok.iter (fun p=> ∃i:Nat,i≤ss.length∧p=(ss,(i:Int),mergeR (ss.take i),())) (fun p=>((ss.length:Int)-p.2.1).toNat) ?_ k _ ⟨0,by omega,rfl⟩ (by show ((ss.length:Int)-0).toNat<k;omega)
  rintro _ ⟨i,hi,rfl⟩
  have hw:w64 ((i:Int)+1)=((i+1:Nat):Int):=by rw [w64_ok (by omega) (by omega)];rfl
  refine Ok.dec (p:=(i:Int)<(ss.length:Int)) (fun hlt=> ?_) (fun hge=>Ok.some ?_)
  ·obtain ⟨s,hs⟩: ∃s,ss[i]? = some s:=⟨_,List.getElem?_eq_getElem (by omega)⟩
   have hs':ss[(i:Int).toNat]? = some s:=hs
   have hnx:=stepM_take ss hs
   have hol:=mergeR_len (ss.take i)
   rw [List.length_take] at hol
   have hts:=ht s (List.mem_of_getElem? hs)
   have hcopy:G131 k (s.2.2.1,0,())=some (s.2.2.1,()):=by rw [G131_eq _ _ (by have:=hts.1;omega) k (by have:=hts.1;omega),hts.mv0]
   have key: ∀(out:List SpanT18) (j:Int),out.length≤i→mergeR (ss.take (i+1))=out ++ [s]→Ok ((at? ss (i:Int)).bind fun v17=>(at? ss (i:Int)).bind fun v18=>(at? ss (i:Int)).bind fun v19=>(G131 k (v19.2.2.1,(0:Int),())).bind fun (v20,_)=>
     room ((List.length out)+(List.length ([(v17.1,v18.2.1,v20,())]:List SpanT18))) 40 (some (ss,(i:Int),(out++([(v17.1,v18.2.1,v20,())]:List SpanT18)),()))) fun p=>p=(ss,(i:Int),mergeR (ss.take (i+1)),()):=by
    intro out j h1 h2
    refine Ok.atV (by omega) hs' (Ok.atV (by omega) hs' (Ok.atV (by omega) hs' (Ok.eq hcopy (Ok.room (by show out.length+1≤_;omega) (by omega) (Ok.some ?_)))))
    rw [h2]
   generalize mergeR (ss.take i)=out at hnx hol ⊢
   refine Ok.bind (Q:=fun p=> ∃z b,p=(ss,(i:Int),z,b,out,())∧((b=false∧mergeR (ss.take (i+1))=out ++ [s])∨(b=true∧ ∃A x,out=A ++ [x]∧z=(A.length:Int)∧mergeR (ss.take (i+1))=A ++ [jn x s]))) ?_ ?_
   ·rcases nil_or_snoc out with rfl | ⟨A,x,rfl⟩
    ·exact Ok.some ⟨_,false,rfl,Or.inl ⟨rfl,hnx⟩⟩
    ·have hal:(A ++ [x]).length=A.length+1:=by rw [List.length_append];rfl
     have hwl:w64 (((A ++ [x]).length:Int)-1)=(A.length:Int):=by rw [hal,w64_ok (by omega) (by omega)];omega
     have hg:(A ++ [x])[((A.length:Int)).toNat]? = some x:=get_snoc x A
     rw [stepM_snoc] at hnx
     have hno:mg x s=false→mergeR (ss.take (i+1))=(A ++ [x]) ++ [s]:=fun h=>by rw [hnx,h,List.append_assoc];rfl
     rw [hwl]
     refine Ok.tt (decide_eq_true (by omega)) (Ok.atV (by omega) hs' ?_)
     rw [wet_eq]
     refine Ok.cond (fun h1=> ?_) (fun h1=>Ok.some ⟨_,_,rfl,Or.inl ⟨rfl,hno (by unfold mg;rw [h1,Bool.false_and,Bool.and_false])⟩⟩)
     refine Ok.atV (by omega) hg (Ok.getV hg ?_)
     rw [wet_eq]
     refine Ok.cond (fun h2=> ?_) (fun h2=>Ok.some ⟨_,_,rfl,Or.inl ⟨rfl,hno (by unfold mg;rw [h2,Bool.false_and])⟩⟩)
     have hm:mg x s=(x.2.1==s.1):=by unfold mg;rw [h1,h2,Bool.true_and,Bool.true_and]
     refine Ok.atV (by omega) hg (Ok.getV hg (Ok.atV (by omega) hs' (Ok.some ⟨_,_,rfl,?_⟩)))
     rw [← hm]
     cases hb:mg x s with
     | false=>exact Or.inl ⟨rfl,hno hb⟩
     | true=>exact Or.inr ⟨rfl,A,x,rfl,rfl,by rw [hnx,hb];rfl⟩
   ·rintro _ ⟨z,b,rfl,hb⟩
    refine Ok.bind (Q:=fun p=>p=(ss,(i:Int),mergeR (ss.take (i+1)),())) ?_ ?_
    ·rcases hb with ⟨rfl,h⟩ | ⟨rfl,A,x,rfl,rfl,h⟩
     ·exact Ok.ff rfl (key out 0 (by omega) h)
     ·have hg:(A ++ [x])[((A.length:Int)).toNat]? = some x:=get_snoc x A
      refine Ok.tt rfl (Ok.atV (by omega) hs' (Ok.atV (by omega) hg (Ok.getV hg (Ok.some ?_))))
      have e:List.set (A ++ [x]) (Int.toNat (A.length:Int)) (x.1,s.2.1,x.2.2.1,())=_:=set_snoc x (x.1,s.2.1,x.2.2.1,()) A
      rw [h,e];rfl
    ·rintro _ rfl
     refine Ok.some ⟨⟨i+1,by omega,?_⟩,?_⟩
     ·show (ss,w64 ((i:Int)+1),mergeR (ss.take (i+1)),())=_
      rw [hw]
     ·show ((ss.length:Int)-w64 ((i:Int)+1)).toNat<((ss.length:Int)-(i:Int)).toNat
      rw [hw];omega
  ·have e:i=ss.length:=by omega
   subst e
   rw [List.take_length]
 ·rintro _ rfl
  exact Ok.some rfl
theorem clip1_tree {a b:Int} {s t:SpanT18} (h:t∈clip1 a b s):t.2.2.1=s.2.2.1:=by
 unfold clip1 at h
 split at h
 ·exact nomatch h
 ·cases hw:wetS s with
  | true=>
   rw [hw] at h
   have e:=List.mem_singleton.1 h
   subst e
   unfold wetS at hw
   exact (List.isEmpty_iff.1 hw).symm
  | false=>
   rw [hw] at h
   have e:=List.mem_singleton.1 h
   subst e
   rfl
theorem clipL_tree {P:List NodeT17→Prop} {a b:Int}: ∀ {ss:List SpanT18},(∀s∈ss,P s.2.2.1)→ ∀t∈clipL a b ss,P t.2.2.1
 | [],_,t,h=>nomatch h
 | s::l,hP,t,h=>by
  rcases List.mem_append.1 h with h | h
  ·rw [clip1_tree h];exact hP s List.mem_cons_self
  ·exact clipL_tree (fun x hx=>hP x (List.mem_cons_of_mem _ hx)) t h
theorem G126_ok (ss:List SpanT18) (a b:Int) (hl:ss.length<100000) (k:Nat) (hk:ss.length<k) (hk2:300<k) (ht: ∀s∈ss,TOk s.2.2.1) (hs: ∀s∈ss,s.1<s.2.1):G126 k (ss,a,b,())=some (mergeR (clipL a b ss),()):=by
 refine Ok.val ?_
 refine Ok.bind (Q:=fun (r:List SpanT18×Unit)=>r=(clipL a b ss,())) ?_ ?_
 ·refine Ok.iter (fun p=> ∃i:Nat,i≤ss.length∧p=(ss,a,b,(i:Int),clipL a b (ss.take i),())) (fun p=>((ss.length:Int)-p.2.2.2.1).toNat) ?_ k _ ⟨0,by omega,rfl⟩ (by show ((ss.length:Int)-0).toNat<k;omega)
  rintro _ ⟨i,hi,rfl⟩
  have hw:w64 ((i:Int)+1)=((i+1:Nat):Int):=by rw [w64_ok (by omega) (by omega)];rfl
  refine Ok.dec (p:=(i:Int)<(ss.length:Int)) (fun hlt=> ?_) (fun hge=>Ok.some ?_)
  ·refine Ok.bind (Q:=fun p=>p=(ss,a,b,(i:Int),clipL a b (ss.take (i+1)),())) ?_ ?_
   ·refine Ok.at (by omega) hlt fun s hsm hsi=> ?_
    have hsi':ss[i]? = some s:=hsi
    have hnx:=clipL_take a b ss hsi'
    have hol:=clipL_len a b (ss.take i)
    rw [List.length_take] at hol
    have hlt2:=hs s hsm
    refine Ok.bind (Q:=fun p=>p=(ss,a,b,(i:Int),decide (max s.1 a≥min s.2.1 b),clipL a b (ss.take i),s,())) ?_ ?_
    ·refine Ok.dec (p:=s.1≥b) (fun h=>Ok.some ?_) (fun h=>Ok.dec (p:=s.2.1≤a) (fun h2=>Ok.some ?_) (fun h2=>Ok.some ?_))
     ·rw [decide_eq_true (by omega)]
     ·rw [decide_eq_true (by omega)]
     ·have e:decide (a≥b)=decide (max s.1 a≥min s.2.1 b):=decide_eq_decide.2 (by omega)
      rw [e]
    ·rintro _ rfl
     rw [hnx]
     unfold clip1
     refine Ok.dec (p:=max s.1 a≥min s.2.1 b) (fun h=>Ok.some ?_) (fun h=> ?_)
     ·rw [if_pos h,List.append_nil]
     ·rw [if_neg h]
      refine Ok.bind (Q:=fun p=>p=(ss,a,b,(i:Int),clipL a b (ss.take i),(bif wetS s then (max s.1 a,min s.2.1 b,[],()) else s),())) ?_ ?_
      ·rw [wet_eq,max_comm',min_comm']
       refine Ok.cond (fun h1=>Ok.some ?_) (fun h1=>Ok.some ?_)
       ·have e:s.2.2.1= []:=List.isEmpty_iff.1 h1
        rw [h1,e];rfl
       ·rw [h1];rfl
      ·rintro _ rfl
       refine Ok.room (by show _+1≤_;omega) (by omega) (Ok.some ?_)
       cases wetS s<;>rfl
   ·rintro _ rfl
    refine Ok.some ⟨⟨i+1,by omega,?_⟩,?_⟩
    ·show (ss,a,b,w64 ((i:Int)+1),clipL a b (ss.take (i+1)),())=_
     rw [hw]
    ·show ((ss.length:Int)-w64 ((i:Int)+1)).toNat<((ss.length:Int)-(i:Int)).toNat
     rw [hw];omega
  ·have e:i=ss.length:=by omega
   subst e
   rw [List.take_length]
 ·rintro _ rfl
  have:=clipL_len a b ss
  exact Ok.eq (G125_ok _ (by omega) k (by omega) hk2 (clipL_tree ht)) (Ok.some rfl)
end Go.Pi
namespace Go.Pi
set_option linter.unusedVariables false
set_option maxRecDepth 20000
theorem by8 {n:Int} (h:inK .u8 n):0≤n∧n<256:=by
 have h1:(0:Int)≤n:=h.1
 have h2:n≤255:=h.2
 omega
theorem Row.mem: ∀ {a b:Int} {l:List SpanT18},Row a b l→a≤b∧ ∀s∈l,a≤s.1∧s.1<s.2.1∧s.2.1≤b
 | a,b,[],h=>by
  have h':a=b:=h
  exact ⟨by omega,fun s hs=>nomatch hs⟩
 | a,b,s::l,h=>by
  obtain ⟨h1,h2,h3⟩:=h
  obtain ⟨h4,h5⟩:=Row.mem h3
  refine ⟨by omega,fun t ht=> ?_⟩
  rcases List.mem_cons.1 ht with rfl | ht
  ·omega
  ·have:=h5 t ht;omega
theorem consM_tree {P:List NodeT17→Prop} {s:SpanT18} {l:List SpanT18} (hs:P s.2.2.1) (hl: ∀t∈l,P t.2.2.1): ∀t∈consM s l,P t.2.2.1:=by
 intro t ht
 cases l with
 | nil=>rw [List.mem_singleton.1 ht];exact hs
 | cons x l=>
  have ht':t∈(bif mg s x then jn s x::l else s::x::l):=ht
  cases hm:mg s x with
  | true=>
   rw [hm] at ht'
   rcases List.mem_cons.1 ht' with rfl | h
   ·exact hs
   ·exact hl t (List.mem_cons_of_mem _ h)
  | false=>
   rw [hm] at ht'
   rcases List.mem_cons.1 ht' with rfl | h
   ·exact hs
   ·exact hl t h
theorem mergeR_tree {P:List NodeT17→Prop}: ∀ {ss:List SpanT18},(∀s∈ss,P s.2.2.1)→ ∀t∈mergeR ss,P t.2.2.1
 | [],_,t,h=>nomatch h
 | s::l,hP,t,h=>consM_tree (hP s List.mem_cons_self) (mergeR_tree fun x hx=>hP x (List.mem_cons_of_mem _ hx)) t h
theorem G119_same {ss:List SpanT18} (hl:ss.length<100000) (ht: ∀s∈ss,TOk s.2.2.1):G119 K0 (ss,ss,())=some (true,()):=
 G119_ok ss hl K0 (by show _<200000;omega) fun s hs=>by have:=(ht s hs).1;exact ⟨by omega,by show _<200000;omega⟩
theorem next_tree {ss:List SpanT18} (ht: ∀s∈ss,TOk s.2.2.1) (a:Int):TOk (resS (nextS a ss)).1.2.2.1:=by
 cases h:nextS a ss with
 | none=>exact TOk.nil
 | some s=>exact ht s (List.mem_of_find?_eq_some h)
theorem prev_tree {ss:List SpanT18} (ht: ∀s∈ss,TOk s.2.2.1) (a:Int):TOk (resS (prevS a ss)).1.2.2.1:=by
 cases h:prevS a ss with
 | none=>exact TOk.nil
 | some s=>exact ht s (List.mem_reverse.1 (List.mem_of_find?_eq_some h))
end Go.Pi
namespace Go.Pi
set_option linter.unusedVariables false
set_option maxRecDepth 20000
theorem law113 {a:Int} {tx:List Int} {x y:Int} (ha:inK .u8 a) (htx: ∀v∈tx,inK .u8 v):G113 K0 (a,tx,x,y,())=some (true,()):=by
 have ha:=by8 ha
 refine Ok.val ?_
 unfold G113
 refine Ok.eq G116_K0 ?_
 refine Ok.ff rfl ?_
 refine Ok.dec (p:=(tx.length:Int)>14) (fun _=>Ok.some rfl) (fun hl=> ?_)
 refine Ok.bind (G117_ok ha.1 ha.2 (fun v hv=>by8 (htx v hv)) (by omega)) ?_
 rintro _ ⟨n,ss,hn,hs,rfl⟩
 have hlen:=hs.row.len
 have ht:=hs.tree
 have hk:ss.length<K0:=by show _<200000;omega
 have hlt: ∀s∈ss,s.1<s.2.1:=fun s h=>(hs.row.mem.2 s h).2.1
 have n1:=G121_ok ss x (by omega) K0 hk
 have n2:=G122_ok ss x (by omega) K0 hk
 have n3:=G123_ok ss x (by omega) K0 hk
 have n4:=G124_ok ss x (by omega) K0 hk
 have t1:=next_tree ht x
 have t2:=prev_tree ht x
 generalize resS (nextS x ss)=r1 at n1 n2 t1
 generalize resS (prevS x ss)=r2 at n3 n4 t2
 obtain ⟨s1,b1,u1⟩:=r1
 obtain ⟨s2,b2,u2⟩:=r2
 refine Ok.eq n1 ?_
 refine Ok.eq n2 ?_
 refine Ok.eq n3 ?_
 refine Ok.eq n4 ?_
 refine Ok.bind (Q:=fun r=>r=(true,())) ?_ ?_
 ·have hm:=mergeR_len ss
  refine Ok.eq (G120_ok ss (by omega) K0 hk) ?_
  refine Ok.eq (G125_ok ss (by omega) K0 hk (by decide) ht) ?_
  refine Ok.eq (G119_same (by omega) (mergeR_tree ht)) ?_
  refine Ok.tt rfl ?_
  have hc:=mergeR_len (clipL x y ss)
  have hc2:=clipL_len x y ss
  refine Ok.eq (G118_ok ss x y (by omega) K0 hk) ?_
  refine Ok.eq (G126_ok ss x y (by omega) K0 hk (by decide) ht hlt) ?_
  refine Ok.eq (G119_same (by omega) (mergeR_tree (clipL_tree ht))) ?_
  refine Ok.tt rfl ?_
  refine Ok.tt (by rw [if_neg (by decide)];exact beq_self_eq_true _) ?_
  refine Ok.eq (G119_same (ss:= [s1]) (by show 1<100000;decide) (fun s h=>by rw [List.mem_singleton.1 h];exact t1)) ?_
  refine Ok.tt rfl ?_
  refine Ok.tt (by rw [if_neg (by decide)];exact beq_self_eq_true _) ?_
  refine Ok.eq (G119_same (ss:= [s2]) (by show 1<100000;decide) (fun s h=>by rw [List.mem_singleton.1 h];exact t2)) ?_
  exact Ok.some rfl
 ·rintro _ rfl
  exact Ok.some rfl
end Go.Pi
