import Derived.Test.YtmfccopfmddllaaGreatKV
set_option linter.all false
namespace Go.Pi
set_option linter.unusedVariables false
theorem zO {α β:Type}{f:α→Eff β}{H:zg}: ∀ {e:Eff α} {a:α},e.run H=some a→(e.bind f).rd H=e.rd H++(f a).rd H∧(e.bind f).lv H=e.lv H++(f a).lv H
 | .pure a,_,h=>by simp only [Eff.run,Option.some.injEq] at h;subst h;exact ⟨rfl,rfl⟩
 | .fail,_,h=>by simp [Eff.run] at h
 | .get id k,a,h=>by
  simp only [Eff.run] at h;split at h
  ·rename_i sz es lv hq;obtain ⟨h1,h2⟩:=zO (f:=f) (e:=k sz es) h
   simp only [Eff.bind,Eff.rd,Eff.lv,hq,h1,h2,List.cons_append];exact ⟨trivial,trivial⟩
  ·cases h
 | .live id k,a,h=>by
  simp only [Eff.run] at h;split at h
  ·obtain ⟨h1,h2⟩:=zO (f:=f) (e:=k) h
   simp only [Eff.bind,Eff.rd,Eff.lv,h1,h2,List.cons_append];exact ⟨trivial,trivial⟩
  ·cases h
 | .new id k,a,h=>by
  simp only [Eff.run] at h;split at h
  ·split at h
   ·obtain ⟨h1,h2⟩:=zO (f:=f) (e:=k) h
    simp only [Eff.bind,Eff.rd,Eff.lv,h1,h2,List.cons_append];exact ⟨trivial,trivial⟩
   ·cases h
  ·cases h
def Z8 (H:zg){α:Type}(e:Eff α)(l:List Nat):Prop:=(∀j∈e.rd H,j∈l)∧e.lv H= []
theorem Ja {H:zg}{f:D→Eff (D×List Nat)}(hf: ∀d x,(f d).run H=some x→Z8 H (f d) x.2): ∀ {ds:List D} {x:List D×List Nat},(yD f ds).run H=some x→Z8 H (yD f ds) x.2
 | [],x,h=>⟨fun j hj=>(by cases hj),rfl⟩
 | d::ds,x,h=>by
  have h':=h
  simp only [yD,zf,Option.bind_eq_some_iff,Eff.run,Option.some.injEq] at h';obtain ⟨y,h1,z,h2,rfl⟩:=h'
  obtain ⟨a1,a2⟩:=hf d y h1
  obtain ⟨b1,b2⟩:=Ja hf h2
  unfold Z8;simp only [yD,(zO h1).1,(zO h1).2,(zO h2).1,(zO h2).2,Eff.rd,Eff.lv,List.append_nil,a2,b2];refine ⟨fun j hj=> ?_,trivial⟩
  rcases List.mem_append.1 hj with hj | hj
  ·exact List.mem_append_left _ (a1 j hj)
  ·exact List.mem_append_right _ (b1 j hj)
theorem Q8 {H:zg}{f:D→Eff (D×List Nat)}(hf: ∀d x,(f d).run H=some x→Z8 H (f d) x.2): ∀ {ds:List (List D)} {x:List (List D)×List Nat},(yv f ds).run H=some x→Z8 H (yv f ds) x.2
 | [],x,h=>⟨fun j hj=>(by cases hj),rfl⟩
 | d::ds,x,h=>by
  have h':=h
  simp only [yv,zf,Option.bind_eq_some_iff,Eff.run,Option.some.injEq] at h';obtain ⟨y,h1,z,h2,rfl⟩:=h'
  obtain ⟨a1,a2⟩:=Ja hf h1
  obtain ⟨b1,b2⟩:=Q8 hf h2
  unfold Z8;simp only [yv,(zO h1).1,(zO h1).2,(zO h2).1,(zO h2).2,Eff.rd,Eff.lv,List.append_nil,a2,b2];refine ⟨fun j hj=> ?_,trivial⟩
  rcases List.mem_append.1 hj with hj | hj
  ·exact List.mem_append_left _ (a1 j hj)
  ·exact List.mem_append_right _ (b1 j hj)
theorem UW {H:zg}: ∀(n:Nat) (d:D) (x:D×List Nat),(frz n d).run H=some x→Z8 H (frz n d) x.2
 | 0,d,x,h=>by simp [frz,Eff.run] at h
 | n+1,d,x,h=>by
  have ih:=UW (H:=H) n
  cases d<;>simp only [frz] at h
  case ref id off len=>
   simp only [Eff.run] at h;split at h
   ·rename_i sz es lv hh;split at h
    ·rename_i hc;have h':=h
     simp only [zf,Option.bind_eq_some_iff,Eff.run,Option.some.injEq] at h';obtain ⟨y,h1,rfl⟩:=h'
     obtain ⟨a1,a2⟩:=Q8 ih h1
     unfold Z8;simp only [frz,Eff.rd,Eff.lv,hh];rw [if_pos hc];simp only [(zO h1).1,(zO h1).2,Eff.rd,Eff.lv,List.append_nil,a2];refine ⟨fun j hj=> ?_,trivial⟩
     simp only [List.mem_cons] at hj ⊢
     rcases hj with hj | hj
     ·exact .inl hj
     ·exact .inr (a1 j hj)
    ·simp [Eff.run] at h
   ·cases h
  case ptr id off=>
   simp only [Eff.run] at h;split at h
   ·rename_i sz es lv hh;split at h
    ·rename_i e he;have h':=h
     simp only [zf,Option.bind_eq_some_iff,Eff.run,Option.some.injEq] at h';obtain ⟨y,h1,rfl⟩:=h'
     obtain ⟨a1,a2⟩:=Ja ih h1
     unfold Z8;simp only [frz,Eff.rd,Eff.lv,hh,he];simp only [(zO h1).1,(zO h1).2,Eff.rd,Eff.lv,List.append_nil,a2];refine ⟨fun j hj=> ?_,trivial⟩
     simp only [List.mem_cons] at hj ⊢
     rcases hj with hj | hj
     ·exact .inl hj
     ·exact .inr (a1 j hj)
    ·simp [Eff.run] at h
   ·cases h
  case agg cs=>
   have h':=h
   simp only [zf,Option.bind_eq_some_iff,Eff.run,Option.some.injEq] at h';obtain ⟨y,h1,rfl⟩:=h'
   obtain ⟨a1,a2⟩:=Ja ih h1
   unfold Z8;simp only [frz,(zO h1).1,(zO h1).2,Eff.rd,Eff.lv,List.append_nil,a2];exact ⟨a1,trivial⟩
  case tup=>simp [Eff.run] at h
  case own=>simp [Eff.run] at h
  all_goals
   simp only [Eff.run,Option.some.injEq] at h;subst h;exact ⟨fun j hj=>(by cases hj),rfl⟩
theorem QH {H:zg}: ∀ {as:List (Nat×D)} {j:Nat} {p:zaN},(∀a∈as,a.1=0)→(jv as j).run H=some p→Z8 H (jv as j) p.ids
 | [],j,p,_,h=>⟨fun j hj=>(by cases hj),rfl⟩
 | (mm,d)::as,j,p,h0,h=>by
  have hm:mm=0:=h0 (mm,d) (by simp)
  subst hm;have h':=h
  simp only [jv,zf,Option.bind_eq_some_iff,Eff.run,Option.some.injEq] at h';obtain ⟨y,h1,z,h2,rfl⟩:=h'
  obtain ⟨a1,a2⟩:=UW _ _ _ h1
  obtain ⟨b1,b2⟩:=QH (fun a ha=>h0 a (by simp [ha])) h2
  unfold Z8;simp only [jv,(zO h1).1,(zO h1).2,(zO h2).1,(zO h2).2,Eff.rd,Eff.lv,List.append_nil,a2,b2];refine ⟨fun j hj=> ?_,trivial⟩
  rcases List.mem_append.1 hj with hj | hj
  ·exact List.mem_append_left _ (a1 j hj)
  ·exact List.mem_append_right _ (b1 j hj)
theorem ZQ {H:zg}{o:Out}: ∀ {is:List Nat},(XS is (.pure o)).rd H= []∧(XS is (.pure o)).lv H=is
 | []=>⟨rfl,rfl⟩
 | i::is=>by
  obtain ⟨h1,h2⟩:=ZQ (H:=H) (o:=o) (is:=is)
  exact ⟨h1,by simp only [XS,Eff.lv,h2]⟩
section
variable {S:Nat→Type} [Sg:Sig S] {ρ ρ':Rho} {H H':zg} {fr:Fr} {b N:Nat} {t:TS S} {s g:St} {α:Type} {pr:yE}
theorem qG {t:TS S}{kp:Bool}: ∀ {ps:List PK} {args:List (Nat×PX)} {p:Flds S (pcs ps)},qS t kp ps args=some p→ ∀a∈args,a.1=0
 | [],[],_,_=>fun a ha=>nomatch ha
 | .val c::ps,(m,x)::as,p,h=>fun a ha=>by
  simp only [qS] at h;split at h
  ·rename_i hm _ hp;rcases List.mem_cons.mp ha with rfl | ha
   ·exact Nat.eq_of_beq_eq_true hm
   ·exact qG hp a ha
  ·cases h
 | .ptr c::ps,(m,x)::as,p,h=>fun a ha=>by
  simp only [qS] at h;split at h
  ·rename_i hm _ hp;rcases List.mem_cons.mp ha with rfl | ha
   ·exact Nat.eq_of_beq_eq_true hm
   ·exact qG hp a ha
  ·cases h
 | .fn n::ps,(m,x)::as,p,h=>fun a ha=>by
  simp only [qS] at h;split at h
  ·rename_i hm _;split at h
   ·rcases List.mem_cons.mp ha with rfl | ha
    ·exact Nat.eq_of_beq_eq_true hm
    ·exact qG h a ha
   ·cases h
  ·cases h
 | [],_::_,_,h=>nomatch h
 | .val _::_,[],_,h=>nomatch h
 | .ptr _::_,[],_,h=>nomatch h
 | .fn _::_,[],_,h=>nomatch h
theorem zgN (h:zc fr b N ρ t g){pn:Option Nat}{f:Nat}{c:ze}{ps:List PK}{rs:List RK}{F:T S c×Flds S (pcs ps)→Option (T S c×Flds S (rcs rs))}(hF:LOk pr f c ps rs F){x:PX}{ob:Nat}{vs:List (Val S)}{a:T S c}{args:List (Nat×PX)}{p:Flds S (pcs ps)}{r:T S c×Flds S (rcs rs)}{res:Nat}{q:List (Val S)×TS S}
  (hx:evK t x=some (.ptr ob [] 0 0)) (ho:zq t.hp ob=some (.box pn vs)) (ha:mk 11 c vs=some a) (hp:qS t false ps args=some p) (hr:F (a,p)=some r) (hi:Zn rs r.2 res (t.setO ob (.box pn [.one 1 c r.1]))=some q) (hv:rs.all Uz=true) :
  ∃n o g' ρ',(yl (zP pr n) (b+res) f (((2,x)::args).map fun p=>(p.1,p.2.ev g.ts))).run g.hp=some o∧GhK ⟨g.ts,o.on g.hp⟩ g'∧zc fr b N ρ' q.2 g'∧VS ρ' g'.hp (UA rs q.1) o.d∧(∀o p x,ρ o p=some x→ρ' o p=some x)∧HLe g.hp g'.hp∧ ∃id,ρ ob []=some (some id)∧(∀j∈(yl (zP pr n) (b+res) f (((2,x)::args).map fun p=>(p.1,p.2.ev g.ts))).rd g.hp,dead g.hp j∨j=id)∧(yl (zP pr n) (b+res) f (((2,x)::args).map fun p=>(p.1,p.2.ev g.ts))).lv g.hp= [id]∧o.ws.map (·.1)= [id]∧ ∀j∈o.fz,dead g.hp j:=by
 obtain ⟨ds,ids,p1,p2,p3⟩:=jq h (j:=1) hp
 obtain ⟨id,sz,es,c1,c2,c3,c4⟩:=h.ev hx
 obtain ⟨id',cs,k1,k2,k3,k9⟩:=h.hp _ _ ho
 rw [c1] at k1;cases k1;rw [c2] at k2;cases k2;rw [Nat.zero_mul,Nat.zero_add] at c4;have hcs:=JW (by omega) ha k3
 have hw:yI vs=W (S:=S) c:=by rw [←k3.len,←hcs.len,qk]
 rw [hw] at c2;obtain ⟨z,z1,z2,z3⟩:=YD (P:=fun _=>False) (Nat.le_refl 11) hcs
 have z3: ∀i∈z.2,dead g.hp i:=fun i hi=>(z3 i hi).elim (fun q=>q) fun q=>q.elim
 have zE:(yv (frz yo) [cs]).run g.hp=some ([z.1],z.2):=by
  have:(yv (frz 11) [cs]).run g.hp=some ([z.1],z.2):=by simp [yv,zf,z1,Eff.run]
  exact Q7 (by decide) this
 have hids: ∀j∈z.2++ids,dead g.hp j:=by
  intro j hj;simp at hj;rcases hj with hj | hj
  ·exact z3 j hj
  ·rcases p3 j hj with h | ⟨h,_⟩
   ·exact h
   ·cases h
 have hprep:(jv (((2,x)::args).map fun p=>(p.1,p.2.ev g.ts)) 0).run g.hp=some ⟨.ptr 0 0::ds,[.row (W (S:=S) c) [z.1] true],z.2++ids,[(id,true)]⟩:=by
  simp only [List.map_cons,c4,jv,Eff.run,c2,if_true,zf,zE,Option.bind_some,p1]
 obtain ⟨n,d,H',r1,r2,xs,hd',rd,cs2,ry,e1,e2,e3,e4,e5,e6,e7,e8,e9,e10⟩:=hF (a,p) r hr z.1 ds (Yj z2) p2
 have hidl:id<g.hp.length:=yT (by rw [c2];intro e;cases e)
 have hs1:zc fr b N ρ (t.setO ob (.box pn [.one 1 c r.1])) ⟨g.ts,g.hp.set id (.row (W (S:=S) c) [cs2] true)⟩:=h.upd (es:= [cs]) (es':= [cs2]) c1 c2 rfl fun hx e1 _=>⟨id,cs2,c1,by rw [e1];simp [yI,Qa],VCs.single (qy (HLe.nil _) e6),k9⟩
 obtain ⟨g',ρ',q1,q2,q3,q4,q5⟩:=jO (k:=res) e4 (GhK.refl ⟨g.ts,g.hp.set id (.row (W (S:=S) c) [cs2] true)⟩) hs1 hi
 have hne: ∀j,dead g.hp j→j≠id:=fun j hj e=>by
  obtain ⟨_,_,hj⟩:=hj
  rw [e,c2] at hj;cases hj
 have hl:(zI (b+res) xs).1.length=rs.length:=by
  have: ∀ {l:List D} {r:Nat},(zI r l).1.length=l.length:=by
   intro l;induction l with
   | nil=>intro r;rfl
   | cons d l ih=>intro r;simp [zI,ih]
  rw [this,e4.len]
 refine ⟨n,⟨qx d (zI (b+res) xs).1,(id,.row (W (S:=S) c) [cs2] true)::(zI (b+res) xs).2,z.2++ids⟩,g',ρ',?_,?_,q2,X7 r2 hl q4,q3.map,(jF (fun _ _ e=>by rw [c2] at e;cases e)).tr q3.hle,id,c1,?_,?_,?_,hids⟩
 ·have hap:yc [id] (z.2++ids)=true:=by
   simp only [yc,List.all_eq_true,Bool.not_eq_true',List.contains_eq_mem,decide_eq_false_iff_not];intro j hj hm;simp only [List.mem_singleton] at hj;exact hne j (hids j hm) hj
  have hnd:ye [id]=true:=by simp [ye]
  unfold yl;rw [zf,hprep];simp only [Option.bind_some,List.map_cons,List.map_nil,hap,hnd,Bool.and_self,if_true,r1,qU,e1,XK e5 id,qa];simp only [e2,e3,e7,e8,e9,e10,Bool.and_self,if_true,List.isEmpty_cons,Bool.false_and,Bool.false_eq_true,if_false];rw [Zs (fun j hj=> ?_)]
  ·rfl
  ·obtain ⟨f1,f2⟩:=q5 j hj
   rw [zw hidl] at f1;split at f1
   ·cases f1
   ·exact ⟨f1,by simpa using f2⟩
 ·show GhK ⟨g.ts,jc (yt (g.hp.set id _) _) _⟩ g'
  rw [ZE (fun j hj=> ?_)]
  ·exact q1
  ·obtain ⟨sz',es',hj'⟩:=hids j hj
   have hn:=hne j (hids j hj)
   have h1:hat (g.hp.set id (.row (W (S:=S) c) [cs2] true)) j= .row sz' es' false:=by rw [zw hidl,if_neg hn];exact hj'
   refine ⟨sz',es',?_⟩
   rw [Q6 (fun j' hj' e=> ?_)]
   ·exact h1
   ·subst e;have:=(q5 j hj').1
    rw [h1] at this;cases this
 ·intro j hj;have hz: ∀a∈args.map (fun p=>(p.1,p.2.ev g.ts)),a.1=0:=fun a ha=>by
   obtain ⟨y,hy,rfl⟩:=List.mem_map.mp ha
   exact qG hp y hy
  unfold yl at hj;rw [(zO hprep).1] at hj;rcases List.mem_append.1 hj with hj | hj
  ·simp only [List.map_cons,c4,jv,Eff.rd,c2,if_true] at hj;rw [(zO zE).1,(zO p1).1] at hj;simp only [List.mem_cons,List.mem_append,Eff.rd,List.not_mem_nil,or_false] at hj;rcases hj with hj | hj | hj
   ·exact .inr hj
   ·exact .inl (hids j (List.mem_append_left _ ((Q8 (UW _) zE).1 j hj)))
   ·exact .inl (hids j (List.mem_append_right _ ((QH hz p1).1 j hj)))
  ·exfalso
   have hap:yc [id] (z.2++ids)=true:=by
    simp only [yc,List.all_eq_true,Bool.not_eq_true',List.contains_eq_mem,decide_eq_false_iff_not];intro j hj hm;simp only [List.mem_singleton] at hj;exact hne j (hids j hm) hj
   have hnd:ye [id]=true:=by simp [ye]
   simp only [List.map_cons,List.map_nil,hap,hnd,Bool.and_self,if_true,r1,qU,e1,XK e5 id,qa,Option.bind_some] at hj;simp only [e2,e3,e7,e8,e9,e10,Bool.and_self,if_true,List.isEmpty_cons,Bool.false_and,Bool.false_eq_true,if_false,ZQ.1] at hj
   cases hj
 ·have hz: ∀a∈args.map (fun p=>(p.1,p.2.ev g.ts)),a.1=0:=fun a ha=>by
   obtain ⟨y,hy,rfl⟩:=List.mem_map.mp ha
   exact qG hp y hy
  unfold yl;rw [(zO hprep).2];have hap:yc [id] (z.2++ids)=true:=by
   simp only [yc,List.all_eq_true,Bool.not_eq_true',List.contains_eq_mem,decide_eq_false_iff_not];intro j hj hm;simp only [List.mem_singleton] at hj;exact hne j (hids j hm) hj
  have hnd:ye [id]=true:=by simp [ye]
  simp only [List.map_cons,List.map_nil,hap,hnd,Bool.and_self,if_true,r1,qU,e1,XK e5 id,qa,Option.bind_some];simp only [e2,e3,e7,e8,e9,e10,Bool.and_self,if_true,List.isEmpty_cons,Bool.false_and,Bool.false_eq_true,if_false,ZQ.2,Jp hv e4,List.map_nil,List.append_nil];simp only [c4,jv,Eff.lv,c2,if_true];rw [(zO zE).2,(zO p1).2,(Q8 (UW _) zE).2,(QH hz p1).2];rfl
 ·rw [Jp hv e4];rfl
end
end Go.Pi
