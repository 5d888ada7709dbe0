import Derived.Test.YtmfccopfmddllaaGreatKV
set_option linter.all false
namespace Go.Pi
set_option linter.unusedVariables false
theorem zG {α β:Type}{f:α→Eff β}{H:zf}: ∀ {e:Eff α} {a:α},e.run H=some a→(e.bind f).rd H=e.rd H++(f a).rd H∧(e.bind f).lv H=e.lv H++(f a).lv H
 | .pure a,_,h=>by simp only [Eff.run,Option.some.injEq] at h;subst h;exact ⟨rfl,rfl⟩
 | .fail,_,h=>by simp [Eff.run] at h
 | .get id k,a,h=>by
  simp only [Eff.run] at h;split at h
  ·rename_i sz es lv hq;obtain ⟨h1,h2⟩:=zG (f:=f) (e:=k sz es) h
   simp only [Eff.bind,Eff.rd,Eff.lv,hq,h1,h2,List.cons_append];exact ⟨trivial,trivial⟩
  ·cases h
 | .live id k,a,h=>by
  simp only [Eff.run] at h;split at h
  ·obtain ⟨h1,h2⟩:=zG (f:=f) (e:=k) h
   simp only [Eff.bind,Eff.rd,Eff.lv,h1,h2,List.cons_append];exact ⟨trivial,trivial⟩
  ·cases h
 | .new id k,a,h=>by
  simp only [Eff.run] at h;split at h
  ·split at h
   ·obtain ⟨h1,h2⟩:=zG (f:=f) (e:=k) h
    simp only [Eff.bind,Eff.rd,Eff.lv,h1,h2,List.cons_append];exact ⟨trivial,trivial⟩
   ·cases h
  ·cases h
def ZG (H:zf){α:Type}(e:Eff α)(l:List Nat):Prop:=(∀j∈e.rd H,j∈l)∧e.lv H= []
theorem QC {H:zf}{f:D→Eff (D×List Nat)}(hf: ∀d x,(f d).run H=some x→ZG H (f d) x.2): ∀ {ds:List D} {x:List D×List Nat},(ym f ds).run H=some x→ZG H (ym f ds) x.2
 | [],x,h=>⟨fun j hj=>(by cases hj),rfl⟩
 | d::ds,x,h=>by
  have h':=h
  simp only [ym,ze,Option.bind_eq_some_iff,Eff.run,Option.some.injEq] at h';obtain ⟨y,h1,z,h2,rfl⟩:=h'
  obtain ⟨a1,a2⟩:=hf d y h1
  obtain ⟨b1,b2⟩:=QC hf h2
  unfold ZG;simp only [ym,(zG h1).1,(zG h1).2,(zG h2).1,(zG h2).2,Eff.rd,Eff.lv,List.append_nil,a2,b2];refine ⟨fun j hj=> ?_,trivial⟩
  rcases List.mem_append.1 hj with hj | hj
  ·exact List.mem_append_left _ (a1 j hj)
  ·exact List.mem_append_right _ (b1 j hj)
theorem QA {H:zf}{f:D→Eff (D×List Nat)}(hf: ∀d x,(f d).run H=some x→ZG H (f d) x.2): ∀ {ds:List (List D)} {x:List (List D)×List Nat},(yf f ds).run H=some x→ZG H (yf f ds) x.2
 | [],x,h=>⟨fun j hj=>(by cases hj),rfl⟩
 | d::ds,x,h=>by
  have h':=h
  simp only [yf,ze,Option.bind_eq_some_iff,Eff.run,Option.some.injEq] at h';obtain ⟨y,h1,z,h2,rfl⟩:=h'
  obtain ⟨a1,a2⟩:=QC hf h1
  obtain ⟨b1,b2⟩:=QA hf h2
  unfold ZG;simp only [yf,(zG h1).1,(zG h1).2,(zG h2).1,(zG h2).2,Eff.rd,Eff.lv,List.append_nil,a2,b2];refine ⟨fun j hj=> ?_,trivial⟩
  rcases List.mem_append.1 hj with hj | hj
  ·exact List.mem_append_left _ (a1 j hj)
  ·exact List.mem_append_right _ (b1 j hj)
theorem Ul {H:zf}: ∀(n:Nat) (d:D) (x:D×List Nat),(frz n d).run H=some x→ZG H (frz n d) x.2
 | 0,d,x,h=>by simp [frz,Eff.run] at h
 | n+1,d,x,h=>by
  have ih:=Ul (H:=H) n
  cases d<;>simp only [frz] at h
  case ref id off len=>
   simp only [Eff.run] at h;split at h
   ·rename_i sz es lv hh;split at h
    ·rename_i hc;have h':=h
     simp only [ze,Option.bind_eq_some_iff,Eff.run,Option.some.injEq] at h';obtain ⟨y,h1,rfl⟩:=h'
     obtain ⟨a1,a2⟩:=QA ih h1
     unfold ZG;simp only [frz,Eff.rd,Eff.lv,hh];rw [if_pos hc];simp only [(zG h1).1,(zG h1).2,Eff.rd,Eff.lv,List.append_nil,a2];refine ⟨fun j hj=> ?_,trivial⟩
     simp only [List.mem_cons] at hj ⊢
     rcases hj with hj | hj
     ·exact .inl hj
     ·exact .inr (a1 j hj)
    ·simp [Eff.run] at h
   ·cases h
  case ptr id off=>
   simp only [Eff.run] at h;split at h
   ·rename_i sz es lv hh;split at h
    ·rename_i e he;have h':=h
     simp only [ze,Option.bind_eq_some_iff,Eff.run,Option.some.injEq] at h';obtain ⟨y,h1,rfl⟩:=h'
     obtain ⟨a1,a2⟩:=QC ih h1
     unfold ZG;simp only [frz,Eff.rd,Eff.lv,hh,he];simp only [(zG h1).1,(zG h1).2,Eff.rd,Eff.lv,List.append_nil,a2];refine ⟨fun j hj=> ?_,trivial⟩
     simp only [List.mem_cons] at hj ⊢
     rcases hj with hj | hj
     ·exact .inl hj
     ·exact .inr (a1 j hj)
    ·simp [Eff.run] at h
   ·cases h
  case agg cs=>
   have h':=h
   simp only [ze,Option.bind_eq_some_iff,Eff.run,Option.some.injEq] at h';obtain ⟨y,h1,rfl⟩:=h'
   obtain ⟨a1,a2⟩:=QC ih h1
   unfold ZG;simp only [frz,(zG h1).1,(zG h1).2,Eff.rd,Eff.lv,List.append_nil,a2];exact ⟨a1,trivial⟩
  case tup=>simp [Eff.run] at h
  case own=>simp [Eff.run] at h
  all_goals
   simp only [Eff.run,Option.some.injEq] at h;subst h;exact ⟨fun j hj=>(by cases hj),rfl⟩
theorem Qb {H:zf}: ∀ {as:List (Nat×D)} {j:Nat} {p:zac},(∀a∈as,a.1=0)→(qX as j).run H=some p→ZG H (qX as j) p.ids
 | [],j,p,_,h=>⟨fun j hj=>(by cases hj),rfl⟩
 | (mm,d)::as,j,p,h0,h=>by
  have hm:mm=0:=h0 (mm,d) (by simp)
  subst hm;have h':=h
  simp only [qX,ze,Option.bind_eq_some_iff,Eff.run,Option.some.injEq] at h';obtain ⟨y,h1,z,h2,rfl⟩:=h'
  obtain ⟨a1,a2⟩:=Ul _ _ _ h1
  obtain ⟨b1,b2⟩:=Qb (fun a ha=>h0 a (by simp [ha])) h2
  unfold ZG;simp only [qX,(zG h1).1,(zG h1).2,(zG h2).1,(zG h2).2,Eff.rd,Eff.lv,List.append_nil,a2,b2];refine ⟨fun j hj=> ?_,trivial⟩
  rcases List.mem_append.1 hj with hj | hj
  ·exact List.mem_append_left _ (a1 j hj)
  ·exact List.mem_append_right _ (b1 j hj)
theorem Zo {H:zf}{o:Out}: ∀ {is:List Nat},(Xj is (.pure o)).rd H= []∧(Xj is (.pure o)).lv H=is
 | []=>⟨rfl,rfl⟩
 | i::is=>by
  obtain ⟨h1,h2⟩:=Zo (H:=H) (o:=o) (is:=is)
  exact ⟨h1,by simp only [Xj,Eff.lv,h2]⟩
section
variable {S:Nat→Type} [Sg:Sig S] {ρ ρ':Rho} {H H':zf} {fr:Fr} {b N:Nat} {t:TS S} {s g:St} {α:Type} {pr:yn}
theorem qj {t:TS S}{kp:Bool}: ∀ {ps:List PK} {args:List (Nat×PX)} {p:Flds S (pcs ps)},qu t kp ps args=some p→ ∀a∈args,a.1=0
 | [],[],_,_=>fun a ha=>nomatch ha
 | .val c::ps,(m,x)::as,p,h=>fun a ha=>by
  simp only [qu] at h;split at h
  ·rename_i hm _ hp;rcases List.mem_cons.mp ha with rfl | ha
   ·exact Nat.eq_of_beq_eq_true hm
   ·exact qj hp a ha
  ·cases h
 | .ptr c::ps,(m,x)::as,p,h=>fun a ha=>by
  simp only [qu] at h;split at h
  ·rename_i hm _ hp;rcases List.mem_cons.mp ha with rfl | ha
   ·exact Nat.eq_of_beq_eq_true hm
   ·exact qj hp a ha
  ·cases h
 | .fn n::ps,(m,x)::as,p,h=>fun a ha=>by
  simp only [qu] at h;split at h
  ·rename_i hm _;split at h
   ·rcases List.mem_cons.mp ha with rfl | ha
    ·exact Nat.eq_of_beq_eq_true hm
    ·exact qj h a ha
   ·cases h
  ·cases h
 | [],_::_,_,h=>nomatch h
 | .val _::_,[],_,h=>nomatch h
 | .ptr _::_,[],_,h=>nomatch h
 | .fn _::_,[],_,h=>nomatch h
theorem zf8 (h:zc fr b N ρ t g){pn:Option Nat}{f:Nat}{c:Code}{ps:List PK}{rs:List RK}{F:T S c×Flds S (pcs ps)→Option (T S c×Flds S (rcs rs))}(hF:LOk pr f c ps rs F){x:PX}{ob:Nat}{vs:List (Val S)}{a:T S c}{args:List (Nat×PX)}{p:Flds S (pcs ps)}{r:T S c×Flds S (rcs rs)}{res:Nat}{q:List (Val S)×TS S}
  (hx:evK t x=some (.ptr ob [] 0 0)) (ho:look t.hp ob=some (.box pn vs)) (ha:mk 11 c vs=some a) (hp:qu t false ps args=some p) (hr:F (a,p)=some r) (hi:jX rs r.2 res (t.setO ob (.box pn [.one 1 c r.1]))=some q) (hv:rs.all VW=true) :
  ∃n o g' ρ',(zX (runN pr n) (b+res) f (((2,x)::args).map fun p=>(p.1,p.2.ev g.ts))).run g.hp=some o∧GhK ⟨g.ts,o.on g.hp⟩ g'∧zc fr b N ρ' q.2 g'∧VS ρ' g'.hp (VX rs q.1) o.d∧(∀o p x,ρ o p=some x→ρ' o p=some x)∧HLe g.hp g'.hp∧ ∃id,ρ ob []=some (some id)∧(∀j∈(zX (runN pr n) (b+res) f (((2,x)::args).map fun p=>(p.1,p.2.ev g.ts))).rd g.hp,dead g.hp j∨j=id)∧(zX (runN pr n) (b+res) f (((2,x)::args).map fun p=>(p.1,p.2.ev g.ts))).lv g.hp= [id]∧o.ws.map (·.1)= [id]∧ ∀j∈o.fz,dead g.hp j:=by
 obtain ⟨ds,ids,p1,p2,p3⟩:=qS h (j:=1) hp
 obtain ⟨id,sz,es,c1,c2,c3,c4⟩:=h.ev hx
 obtain ⟨id',cs,k1,k2,k3,k9⟩:=h.hp _ _ ho
 rw [c1] at k1;cases k1;rw [c2] at k2;cases k2;rw [Nat.zero_mul,Nat.zero_add] at c4;have hcs:=Jq (by omega) ha k3
 have hw:yr vs=W (S:=S) c:=by rw [←k3.len,←hcs.len,yT]
 rw [hw] at c2;obtain ⟨z,z1,z2,z3⟩:=Ya (P:=fun _=>False) (Nat.le_refl 11) hcs
 have z3: ∀i∈z.2,dead g.hp i:=fun i hi=>(z3 i hi).elim (fun q=>q) fun q=>q.elim
 have zE:(yf (frz ya) [cs]).run g.hp=some ([z.1],z.2):=by
  have:(yf (frz 11) [cs]).run g.hp=some ([z.1],z.2):=by simp [yf,ze,z1,Eff.run]
  exact Qz (by decide) this
 have hids: ∀j∈z.2++ids,dead g.hp j:=by
  intro j hj;simp at hj;rcases hj with hj | hj
  ·exact z3 j hj
  ·rcases p3 j hj with h | ⟨h,_⟩
   ·exact h
   ·cases h
 have hprep:(qX (((2,x)::args).map fun p=>(p.1,p.2.ev g.ts)) 0).run g.hp=some ⟨.ptr 0 0::ds,[.row (W (S:=S) c) [z.1] true],z.2++ids,[(id,true)]⟩:=by
  simp only [List.map_cons,c4,qX,Eff.run,c2,if_true,ze,zE,Option.bind_some,p1]
 obtain ⟨n,d,H',r1,r2,xs,hd',rd,cs2,ry,e1,e2,e3,e4,e5,e6,e7,e8,e9,e10⟩:=hF (a,p) r hr z.1 ds (ZR z2) p2
 have hidl:id<g.hp.length:=yB (by rw [c2];intro e;cases e)
 have hs1:zc fr b N ρ (t.setO ob (.box pn [.one 1 c r.1])) ⟨g.ts,g.hp.set id (.row (W (S:=S) c) [cs2] true)⟩:=h.upd (es:= [cs]) (es':= [cs2]) c1 c2 rfl fun hx e1 _=>⟨id,cs2,c1,by rw [e1];simp [yr,YG],VCs.single (qb (HLe.nil _) e6),k9⟩
 obtain ⟨g',ρ',q1,q2,q3,q4,q5⟩:=jq (k:=res) e4 (GhK.refl ⟨g.ts,g.hp.set id (.row (W (S:=S) c) [cs2] true)⟩) hs1 hi
 have hne: ∀j,dead g.hp j→j≠id:=fun j hj e=>by
  obtain ⟨_,_,hj⟩:=hj
  rw [e,c2] at hj;cases hj
 have hl:(zA (b+res) xs).1.length=rs.length:=by
  have: ∀ {l:List D} {r:Nat},(zA r l).1.length=l.length:=by
   intro l;induction l with
   | nil=>intro r;rfl
   | cons d l ih=>intro r;simp [zA,ih]
  rw [this,e4.len]
 refine ⟨n,⟨qa d (zA (b+res) xs).1,(id,.row (W (S:=S) c) [cs2] true)::(zA (b+res) xs).2,z.2++ids⟩,g',ρ',?_,?_,q2,Xy r2 hl q4,q3.map,(jg (fun _ _ e=>by rw [c2] at e;cases e)).tr q3.hle,id,c1,?_,?_,?_,hids⟩
 ·have hap:apart [id] (z.2++ids)=true:=by
   simp only [apart,List.all_eq_true,Bool.not_eq_true',List.contains_eq_mem,decide_eq_false_iff_not];intro j hj hm;simp only [List.mem_singleton] at hj;exact hne j (hids j hm) hj
  have hnd:zP [id]=true:=by simp [zP]
  unfold zX;rw [ze,hprep];simp only [Option.bind_some,List.map_cons,List.map_nil,hap,hnd,Bool.and_self,if_true,r1,finish,e1,Xb e5 id,yL];simp only [e2,e3,e7,e8,e9,e10,Bool.and_self,if_true,List.isEmpty_cons,Bool.false_and,Bool.false_eq_true,if_false];rw [j1 (fun j hj=> ?_)]
  ·rfl
  ·obtain ⟨f1,f2⟩:=q5 j hj
   rw [zp hidl] at f1;split at f1
   ·cases f1
   ·exact ⟨f1,by simpa using f2⟩
 ·show GhK ⟨g.ts,qD (ye (g.hp.set id _) _) _⟩ g'
  rw [Zc (fun j hj=> ?_)]
  ·exact q1
  ·obtain ⟨sz',es',hj'⟩:=hids j hj
   have hn:=hne j (hids j hj)
   have h1:hat (g.hp.set id (.row (W (S:=S) c) [cs2] true)) j= .row sz' es' false:=by rw [zp hidl,if_neg hn];exact hj'
   refine ⟨sz',es',?_⟩
   rw [Qy (fun j' hj' e=> ?_)]
   ·exact h1
   ·subst e;have:=(q5 j hj').1
    rw [h1] at this;cases this
 ·intro j hj;have hz: ∀a∈args.map (fun p=>(p.1,p.2.ev g.ts)),a.1=0:=fun a ha=>by
   obtain ⟨y,hy,rfl⟩:=List.mem_map.mp ha
   exact qj hp y hy
  unfold zX at hj;rw [(zG hprep).1] at hj;rcases List.mem_append.1 hj with hj | hj
  ·simp only [List.map_cons,c4,qX,Eff.rd,c2,if_true] at hj;rw [(zG zE).1,(zG p1).1] at hj;simp only [List.mem_cons,List.mem_append,Eff.rd,List.not_mem_nil,or_false] at hj;rcases hj with hj | hj | hj
   ·exact .inr hj
   ·exact .inl (hids j (List.mem_append_left _ ((QA (Ul _) zE).1 j hj)))
   ·exact .inl (hids j (List.mem_append_right _ ((Qb hz p1).1 j hj)))
  ·exfalso
   have hap:apart [id] (z.2++ids)=true:=by
    simp only [apart,List.all_eq_true,Bool.not_eq_true',List.contains_eq_mem,decide_eq_false_iff_not];intro j hj hm;simp only [List.mem_singleton] at hj;exact hne j (hids j hm) hj
   have hnd:zP [id]=true:=by simp [zP]
   simp only [List.map_cons,List.map_nil,hap,hnd,Bool.and_self,if_true,r1,finish,e1,Xb e5 id,yL,Option.bind_some] at hj;simp only [e2,e3,e7,e8,e9,e10,Bool.and_self,if_true,List.isEmpty_cons,Bool.false_and,Bool.false_eq_true,if_false,Zo.1] at hj
   cases hj
 ·have hz: ∀a∈args.map (fun p=>(p.1,p.2.ev g.ts)),a.1=0:=fun a ha=>by
   obtain ⟨y,hy,rfl⟩:=List.mem_map.mp ha
   exact qj hp y hy
  unfold zX;rw [(zG hprep).2];have hap:apart [id] (z.2++ids)=true:=by
   simp only [apart,List.all_eq_true,Bool.not_eq_true',List.contains_eq_mem,decide_eq_false_iff_not];intro j hj hm;simp only [List.mem_singleton] at hj;exact hne j (hids j hm) hj
  have hnd:zP [id]=true:=by simp [zP]
  simp only [List.map_cons,List.map_nil,hap,hnd,Bool.and_self,if_true,r1,finish,e1,Xb e5 id,yL,Option.bind_some];simp only [e2,e3,e7,e8,e9,e10,Bool.and_self,if_true,List.isEmpty_cons,Bool.false_and,Bool.false_eq_true,if_false,Zo.2,QR hv e4,List.map_nil,List.append_nil];simp only [c4,qX,Eff.lv,c2,if_true];rw [(zG zE).2,(zG p1).2,(QA (Ul _) zE).2,(Qb hz p1).2];rfl
 ·rw [QR hv e4];rfl
end
end Go.Pi
