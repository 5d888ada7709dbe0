import Derived.Test.YtmfccopfmddllaaGreatPiM
import Derived.DeepKeys
import Derived.Laws.StructEq
import Derived.LoopN
set_option linter.all false
namespace Go.Pi
set_option linter.unusedVariables false
section
variable {P:Program} {fm:Nat→Nat} {B:qo} {w:World} {G:Gh} {H:zf} {o:Oper} {a:Act} {ts:List D} {call:zy} {r:Nat} {out:Out}
def Js (P:Program)(fm:Nat→Nat)(call:zy):Prop:=
 ∀(f:Nat) (args:List D) (H:zf) (d:D) (H':zf),call f args H=some (d,H')→ ∀(B:qo) (w:World) (G:Gh) (vs:List Value),Inv fm B w G H→vs.length=args.length →
  (∀(j:Nat) (v:Value) (x:D),vs[j]? = some v→args[j]? = some x→Rep fm G (okB B G H w) w v x) →
  Calls P (fm f) vs.toArray w fun e w'=> ∃v G',e= .returned v∧Adv B w G H w' G' H'∧Inv fm B w' G' H'∧Rep fm G' (okB B G' H' w') w' v d
theorem zfP {l:List Nat}{x:Out}: ∀ {y:Out},(Xj l (.pure x)).run H=some y→y=x∧ ∀i∈l,i<H.length∧hat H i= .fresh:=by
 induction l with
 | nil=>intro y h;simp [Xj,Eff.run] at h;exact ⟨h.symm,by simp⟩
 | cons i l ih=>
  intro y h;obtain ⟨h1,h2,h3⟩:=jd (by exact h)
  obtain ⟨k1,k2⟩:=ih h3
  exact ⟨k1,fun j hj=>by
   simp only [List.mem_cons] at hj;rcases hj with rfl | hj
   ·exact ⟨h1,h2⟩
   ·exact k2 j hj⟩
noncomputable def qt (G G1:Gh)(qs U:List Nat):Gh:=fun j=>
 open Classical in if h: ∃(k u:Nat),qs[k]? = some j∧U[k]? = some u then G1 (Classical.choose (Classical.choose_spec h)) else G j
theorem za5 {G G1:Gh}{qs U:List Nat}(hn:zP qs=true){k q u:Nat}(h1:qs[k]? = some q)(h2:U[k]? = some u):qt G G1 qs U q=G1 u:=by
 have h: ∃(k u:Nat),qs[k]? = some q∧U[k]? = some u:=⟨k,u,h1,h2⟩
 have hs:=Classical.choose_spec (Classical.choose_spec h)
 unfold qt;rw [dif_pos h];have e:=Yv hn hs.1 h1
 have h3:=(congrArg (fun i=>U[i]?) e.symm).trans hs.2
 simp only [h2] at h3;injection h3 with h3;rw [←h3]
theorem zY {G G1:Gh}{qs U:List Nat}{j:Nat}(h: ∀x∈qs,x≠j):qt G G1 qs U j=G j:=by
 unfold qt;rw [dif_neg];rintro ⟨k,u,h1,_⟩
 exact h j (List.mem_of_getElem? h1) rfl
theorem zhL (hI:Inv fm B w G H){p:zac}{vs:List Value}(hp:ZY fm B w G H vs 0 p)(hnod:zP (p.bs.map (·.1))=true)(hap:apart (p.bs.map (·.1)) p.ids=true)
  {B1:qo} {w1:World} {G1:Gh} {H1:zf}
  (hB1:B1= { A:=fun b=>okI (okB B G H w) G H p.ids b∧ ¬(∃(m id:Nat) (bx:Bool) (cap sz:Nat),p.bs[m]? = some (id,bx)∧G id= .row b cap sz),W0:=w,L0:=fun b=> ∃(m id:Nat) (bx:Bool) (cap sz:Nat),p.bs[m]? = some (id,bx)∧G id= .row b cap sz })
  (hI1:Inv fm B1 w1 G1 H1) (hG1: ∀(m id:Nat) (bx:Bool),p.bs[m]? = some (id,bx)→G1 m=G id)
  {rv:List Value} {l:List D} {im:List (Nat×Blk)} {U V1:List Nat} (hE:ziq fm B1 w1 G1 H1 rv l im U V1) (hqn:zP (im.map (·.1))=true) (hqf: ∀q∈im.map (·.1),q<H.length∧hat H q= .fresh)
  {ws:List (Nat×Blk)} {V2:List Nat} (hB2:ws.length=p.bs.length∧ ∀(m id:Nat) (bx:Bool),p.bs[m]? = some (id,bx)→(bx=false∧ws[m]? = some (id,.dead)) ∨
   (bx=true∧0+m∈yL 0 p.bs∧ ∃sz es es' b cap,ws[m]? = some (id,.row sz es' true)∧hat H1 (0+m)= .row sz es true∧G1 (0+m)= .row b cap sz∧RowOk (RepC fm (okI (okB B1 G1 H1 w1) G1 H1 V2) w1) w1 sz es' b cap))
  (hU:zP U=true) (hU1:apart U V1=true) (hU2:apart U V2=true) (hU3:apart U (yL 0 p.bs)=true) (hK1:apart (yL 0 p.bs) V1=true) (hK2:apart (yL 0 p.bs) V2=true)
  {fz:List Nat} (hfz:fz=p.ids∨(fz= []∧p.bs= []∧ ∀(x:D),x∈l∨(∃(k q sz:Nat) (es:List (List D)) (lv:Bool) (e:List D),im[k]? = some (q,Blk.row sz es lv)∧e∈es∧x∈e)→ ∀v ok ok',RepC fm ok w1 v x→RepC fm ok' w1 v x))
  {H2:zf} (hH2:H2=qD (ye H (ws++im)) fz) :
  Adv B w G H w1 (qt G G1 (im.map (·.1)) U) H2∧Inv fm B w1 (qt G G1 (im.map (·.1)) U) H2 ∧
   ∀(j:Nat) (v:Value) (x:D),rv[j]? = some v→l[j]? = some x→Rep fm (qt G G1 (im.map (·.1)) U) (okB B (qt G G1 (im.map (·.1)) U) H2 w1) w1 v x:=by
 have hA1:B1.A=fun b=>okI (okB B G H w) G H p.ids b∧ ¬(∃(m id:Nat) (bx:Bool) (cap sz:Nat),p.bs[m]? = some (id,bx)∧G id= .row b cap sz):=by rw [hB1]
 have hL1:B1.L0=fun b=> ∃(m id:Nat) (bx:Bool) (cap sz:Nat),p.bs[m]? = some (id,bx)∧G id= .row b cap sz:=by rw [hB1]
 have hW1:B1.W0=w:=by rw [hB1]
 have hsz:w.heap.size≤w1.heap.size:=by have:=hI1.size;rw [hW1] at this;exact this
 have bsrow: ∀ {m id:Nat} {bx:Bool},p.bs[m]? = some (id,bx)→ ∃sz es,hat H id= .row sz es true:=fun hm=>by
  obtain ⟨sz,es,_,_,_,h,_⟩:=hp.row _ _ _ hm
  exact ⟨sz,es,h⟩
 have bsrow': ∀ {m id:Nat} {bx:Bool},p.bs[m]? = some (id,bx)→isRow H id:=fun hm=>by
  obtain ⟨sz,es,h⟩:=bsrow hm
  exact ⟨sz,es,true,h⟩
 have wskey: ∀ {m:Nat} {x:Nat×Blk},ws[m]? = some x→ ∃bx,p.bs[m]? = some (x.1,bx):=by
  intro m x hx;have hm:m<p.bs.length:=by rw [←hB2.1];exact (List.getElem?_eq_some_iff.1 hx).1
  rcases hB2.2 m p.bs[m].1 p.bs[m].2 (List.getElem?_eq_getElem hm) with ⟨_,h⟩ | ⟨_,_,sz,es,es',b,cap,h,_⟩
  ·rw [hx] at h;injection h with h;subst h;exact ⟨_,List.getElem?_eq_getElem hm⟩
  ·rw [hx] at h;injection h with h;subst h;exact ⟨_,List.getElem?_eq_getElem hm⟩
 have hwsmap:ws.map (·.1)=p.bs.map (·.1):=by
  apply List.ext_getElem?
  intro m;rw [List.getElem?_map,List.getElem?_map]
  cases hx:ws[m]? with
  | none=>
   rw [List.getElem?_eq_none (by rw [←hB2.1];exact List.getElem?_eq_none_iff.1 hx)]
   rfl
  | some x=>
   obtain ⟨bx,h⟩:=wskey hx
   rw [h];rfl
 have hqne: ∀ {m id:Nat} {bx:Bool},p.bs[m]? = some (id,bx)→id ∉ im.map (·.1):=fun hm hq=>by
  obtain ⟨sz,es,h⟩:=bsrow hm
  rw [(hqf _ hq).2] at h
  cases h
 have hkeys:zP ((ws++im).map (·.1))=true:=by
  rw [List.map_append];refine U4 (by rw [hwsmap];exact hnod) hqn (fun x hx=> ?_)
  rw [hwsmap] at hx;obtain ⟨y,hy,rfl⟩:=List.mem_map.1 hx
  obtain ⟨m,hm,rfl⟩:=List.getElem_of_mem hy
  exact hqne (List.getElem?_eq_getElem hm)
 have hat2: ∀j,hat H2 j=if j∈fz then freeze (hat (ye H (ws++im)) j) else hat (ye H (ws++im)) j:=fun j=>by rw [hH2,yG]
 have fzids: ∀j∈fz,j∈p.ids:=fun j hj=>by
  rcases hfz with h | ⟨h,_⟩
  ·rw [←h];exact hj
  ·rw [h] at hj;cases hj
 have cases2: ∀j:Nat,(∃(m:Nat) (bx:Bool),p.bs[m]? = some (j,bx))∨(∃(k:Nat) (blk:Blk),im[k]? = some (j,blk))∨((∀x∈ws++im,x.1≠j)∧(∀q∈im.map (·.1),q≠j)∧ ∀(m:Nat) (bx:Bool),p.bs[m]? ≠ some (j,bx)):=by
  intro j;by_cases h1: ∃(m:Nat) (bx:Bool),p.bs[m]? = some (j,bx)
  ·exact .inl h1
  ·by_cases h2: ∃(k:Nat) (blk:Blk),im[k]? = some (j,blk)
   ·exact .inr (.inl h2)
   ·refine .inr (.inr ⟨fun x hx e=> ?_,fun q hq e=> ?_,fun m bx hm=>h1 ⟨m,bx,hm⟩⟩)
    ·rcases List.mem_append.1 hx with hx | hx
     ·obtain ⟨m,hm,rfl⟩:=List.getElem_of_mem hx
      obtain ⟨bx,hb⟩:=wskey (List.getElem?_eq_getElem hm)
      exact h1 ⟨m,bx,by rw [←e];exact hb⟩
     ·obtain ⟨k,hk,rfl⟩:=List.getElem_of_mem hx
      exact h2 ⟨k,im[k].2,by rw [List.getElem?_eq_getElem hk,←e]⟩
    ·subst e;obtain ⟨x,hx,rfl⟩:=List.mem_map.1 hq
     obtain ⟨k,hk,rfl⟩:=List.getElem_of_mem hx
     exact h2 ⟨k,im[k].2,List.getElem?_eq_getElem hk⟩
 have atBs: ∀ {m j:Nat} {bx:Bool},p.bs[m]? = some (j,bx)→hat H2 j=(ws[m]?.map (·.2)).getD .dead:=by
  intro m j bx hm;have hml:m<ws.length:=by rw [hB2.1];exact (List.getElem?_eq_some_iff.1 hm).1
  obtain ⟨bx',hb⟩:=wskey (List.getElem?_eq_getElem hml)
  rw [hm] at hb;injection hb with hb;have hj1:ws[m].1=j:=by rw [Prod.mk.injEq] at hb;exact hb.1.symm
  have hnf:j ∉ fz:=fun h=>jm hap (List.mem_map.2 ⟨(j,bx),List.mem_of_getElem? hm,rfl⟩) (fzids j h)
  rw [hat2,if_neg hnf,US (ws++im) H m j ws[m].2 hkeys (by rw [List.getElem?_append_left hml,List.getElem?_eq_getElem hml,←hj1]) (XA (by obtain ⟨_,_,h⟩:=bsrow hm;rw [h];simp)),List.getElem?_eq_getElem hml]
  rfl
 have atIm: ∀ {k j:Nat} {blk:Blk},im[k]? = some (j,blk)→hat (ye H (ws++im)) j=blk:=by
  intro k j blk hk;exact US (ws++im) H (ws.length+k) j blk hkeys (by rw [List.getElem?_append_right (by omega),show ws.length+k-ws.length=k by omega];exact hk) (hqf j (List.mem_map.2 ⟨(j,blk),List.mem_of_getElem? hk,rfl⟩)).1
 have atOther: ∀ {j:Nat},(∀x∈ws++im,x.1≠j)→hat H2 j=if j∈fz then freeze (hat H j) else hat H j:=fun h=>by rw [hat2,yt _ _ _ h]
 have gIm: ∀ {k j:Nat} {blk:Blk},im[k]? = some (j,blk)→ ∃u,U[k]? = some u∧qt G G1 (im.map (·.1)) U j=G1 u:=by
  intro k j blk hk;obtain ⟨u,sz,es,es',b,cap,h1,_⟩:=hE.row k j blk hk
  exact ⟨u,h1,za5 hqn (by rw [List.getElem?_map,hk];rfl) h1⟩
 have gBs: ∀ {m j:Nat} {bx:Bool},p.bs[m]? = some (j,bx)→qt G G1 (im.map (·.1)) U j=G j:=fun hm=>zY (fun x hx e=>hqne hm (by rw [←e];exact hx))
 have gGe:gle G (qt G G1 (im.map (·.1)) U):=by
  intro j;rcases cases2 j with ⟨m,bx,h⟩ | ⟨k,blk,h⟩ | ⟨_,h,_⟩
  ·rw [gBs h];exact GS.le_refl _
  ·rw [hI.fresh j (hqf j (List.mem_map.2 ⟨(j,blk),List.mem_of_getElem? h,rfl⟩)).2];trivial
  ·rw [zY h];exact GS.le_refl _
 have l1blk: ∀ {b:Nat},B1.L0 b→Lv G H b:=by
  intro b hb;rw [hL1] at hb;obtain ⟨m,id,bx,cap,sz,h1,h2⟩:=hb
  obtain ⟨sz',es,h3⟩:=bsrow h1
  exact ⟨id,sz',es,cap,sz,h3,h2⟩
 have own1: ∀ {u b cap sz:Nat},isRow H1 u→G1 u= .row b cap sz→B1.L0 b∨w.heap.size≤b:=by
  rintro u b cap sz ⟨sz',es,lv,hh⟩ hg
  obtain ⟨b',cap',h1,h2,_⟩:=hI1.rows u sz' es lv hh
  rw [hg] at h1;injection h1 with e1 _ _;subst e1;rw [hW1] at h2;exact h2
 have hframe: ∀b,b<w.heap.size→ ¬Lv G H b→w1.heap[b]? = w.heap[b]? := by
  intro b hb hl;have:=hI1.frame b (by rw [hW1];exact hb) (fun h=>hl (l1blk h))
  rw [hW1] at this;exact this
 have lv2: ∀ {b:Nat},Lv (qt G G1 (im.map (·.1)) U) H2 b →
   (∃(j cap sz sz':Nat) (es:List (List D)),(∀(m:Nat) (bx:Bool),p.bs[m]? ≠ some (j,bx))∧j ∉ fz∧hat H j= .row sz' es true∧G j= .row b cap sz)∨(∃(m cap sz sz':Nat) (es:List (List D)),m∈yL 0 p.bs∧hat H1 m= .row sz' es true∧G1 m= .row b cap sz) ∨
   (∃(u cap sz sz':Nat) (es:List (List D)),u∈U∧hat H1 u= .row sz' es true∧G1 u= .row b cap sz):=by
  rintro b ⟨j,sz,es,cap,sz',h1,h2⟩
  rcases cases2 j with ⟨m,bx,h⟩ | ⟨k,blk,h⟩ | ⟨h,h',h''⟩
  ·rw [atBs h] at h1;rw [gBs h] at h2;rcases hB2.2 m j bx h with ⟨_,hw⟩ | ⟨_,hk,sz2,es2,es2',b2,cap2,hw,hh,hg,_⟩
   ·rw [hw] at h1;cases h1
   ·rw [hG1 m j bx h |>.symm] at h2;exact .inr (.inl ⟨m,cap,sz',sz2,es2,by simpa using hk,by simpa using hh,h2⟩)
  ·obtain ⟨u,hu,hg⟩:=gIm h
   obtain ⟨u',sz2,es2,es2',b2,cap2,e1,e2,e3,e4,_⟩:=hE.row k j blk h
   rw [hu] at e1;injection e1 with e1;subst e1;rw [hg] at h2;exact .inr (.inr ⟨u,cap,sz',sz2,es2,List.mem_of_getElem? hu,e3,h2⟩)
  ·rw [atOther h] at h1;rw [zY h'] at h2;split at h1
   ·cases hh:hat H j<;>rw [hh] at h1<;>simp [freeze] at h1
   ·exact .inl ⟨j,cap,sz',sz,es,h'',by assumption,h1,h2⟩
 have hlv: ∀b,Lv (qt G G1 (im.map (·.1)) U) H2 b→Lv G H b∨w.heap.size≤b:=by
  intro b hb;rcases lv2 hb with ⟨j,cap,sz,sz',es,_,_,h1,h2⟩ | ⟨m,cap,sz,sz',es,_,h1,h2⟩ | ⟨u,cap,sz,sz',es,_,h1,h2⟩
  ·exact .inl ⟨j,sz',es,cap,sz,h1,h2⟩
  ·exact (own1 ⟨_,_,_,h1⟩ h2).imp l1blk id
  ·exact (own1 ⟨_,_,_,h1⟩ h2).imp l1blk id
 have hadv:Adv B w G H w1 (qt G G1 (im.map (·.1)) U) H2:=YV gGe hsz hframe hlv
 have okdata:fz=p.ids→ ∀(V:List Nat),apart U V=true→apart (yL 0 p.bs) V=true→ ∀b,okI (okB B1 G1 H1 w1) G1 H1 V b→okB B (qt G G1 (im.map (·.1)) U) H2 w1 b:=by
  intro hf V hUV hKV b hb;have place:B1.A b∨B1.L0 b∨w.heap.size≤b:=by
   rcases hb with ⟨h,_,_⟩ | ⟨v,hv,hr,cap,sz,hg⟩
   ·rw [hW1] at h;exact h
   ·exact .inr (own1 hr hg)
  have hblt:b<w1.heap.size:=by
   rcases hb with ⟨_,_,h⟩ | ⟨v,hv,hr,cap,sz,hg⟩
   ·exact h
   ·exact hI1.blk_lt hr hg
  have live1: ∀ {u cap sz sz':Nat} {es:List (List D)},hat H1 u= .row sz' es true→G1 u= .row b cap sz→(u∈V→False)→False:=by
   intro u cap sz sz' es h1 h2 h3;rcases hb with ⟨_,h,_⟩ | ⟨v,hv,hr,cap',sz'',hg⟩
   ·exact h ⟨u,sz',es,cap,sz,h1,h2⟩
   ·have:=hI1.inj _ _ _ _ _ _ _ ⟨_,_,_,h1⟩ hr h2 hg
    subst this;exact h3 hv
  refine ⟨?_,?_,hblt⟩
  ·rcases place with h | h | h
   ·rw [hA1] at h;rcases h.1 with h | ⟨id,_,⟨sz',es,lv,hh⟩,cap,sz,hg⟩
    ·exact h.1
    ·obtain ⟨b',cap',k1,k2,_⟩:=hI.rows id sz' es lv hh
     rw [hg] at k1;injection k1 with e1 _ _;subst e1;exact .inr k2
   ·rw [hL1] at h;obtain ⟨m,id,bx,cap,sz,h1,h2⟩:=h
    obtain ⟨sz',es,hh⟩:=bsrow h1
    obtain ⟨b',cap',k1,k2,_⟩:=hI.rows id sz' es true hh
    rw [h2] at k1;injection k1 with e1 _ _;subst e1;exact .inr k2
   ·exact .inr (.inr (Nat.le_trans hI.size h))
  ·intro hl;rcases lv2 hl with ⟨j,cap,sz,sz',es,hj1,hj2,h1,h2⟩ | ⟨m,cap,sz,sz',es,hm,h1,h2⟩ | ⟨u,cap,sz,sz',es,hu,h1,h2⟩
   ·rcases place with h | h | h
    ·rw [hA1] at h;rcases h.1 with ⟨_,h',_⟩ | ⟨id,hid,hr,cap',sz'',hg⟩
     ·exact h' ⟨j,sz',es,cap,sz,h1,h2⟩
     ·have:=hI.inj _ _ _ _ _ _ _ ⟨_,_,_,h1⟩ hr h2 hg
      subst this;exact hj2 (by rw [hf];exact hid)
    ·rw [hL1] at h;obtain ⟨m,id,bx,cap',sz'',k1,k2⟩:=h
     have:=hI.inj _ _ _ _ _ _ _ ⟨_,_,_,h1⟩ (bsrow' k1) h2 k2
     subst this;exact hj1 m bx k1
    ·have:=hI.blk_lt ⟨_,_,_,h1⟩ h2
     omega
   ·exact live1 h1 h2 (fun h=>jm hKV hm h)
   ·exact live1 h1 h2 (fun h=>jm hUV hu h)
 have cell1: ∀(ok ok':Nat→Prop),(∀b,ok b→ok' b)→ ∀ {v:Value} {x:D},RepC fm ok w1 v x→RepC fm ok' w1 v x:=fun ok ok' h v x hr=>hr.mono fm h (fun _ _ _ _ hc=>hc)
 have datRes: ∀(x:D),x∈l→ ∀v,RepC fm (okI (okB B1 G1 H1 w1) G1 H1 V1) w1 v x→RepC fm (okB B (qt G G1 (im.map (·.1)) U) H2 w1) w1 v x:=by
  intro x hx v hr;rcases hfz with h | ⟨_,_,h⟩
  ·exact cell1 _ _ (okdata h V1 hU1 hK1) hr
  ·exact h x (.inl hx) v _ _ hr
 have datIm: ∀ {k q sz:Nat} {es:List (List D)} {lv:Bool},im[k]? = some (q,.row sz es lv)→ ∀ {e:List D},e∈es→ ∀ {x:D},x∈e→ ∀v,RepC fm (okI (okB B1 G1 H1 w1) G1 H1 V1) w1 v x →
   RepC fm (okB B (qt G G1 (im.map (·.1)) U) H2 w1) w1 v x:=by
  intro k q sz es lv hk e he x hx v hr;rcases hfz with h | ⟨_,_,h⟩
  ·exact cell1 _ _ (okdata h V1 hU1 hK1) hr
  ·exact h x (.inr ⟨k,q,sz,es,lv,e,hk,he,hx⟩) v _ _ hr
 have old: ∀ {j b cap sz:Nat},isRow H j→G j= .row b cap sz→b<w.heap.size:=fun h1 h2=>hI.blk_lt h1 h2
 have row2: ∀ {j:Nat},isRow H2 j→(∃(m:Nat),p.bs[m]? = some (j,true))∨(∃(k:Nat) (blk:Blk),im[k]? = some (j,blk))∨((∀x∈ws++im,x.1≠j)∧(∀q∈im.map (·.1),q≠j)∧(∀(m:Nat) (bx:Bool),p.bs[m]? ≠ some (j,bx))∧isRow H j):=by
  rintro j ⟨sz,es,lv,hh⟩
  rcases cases2 j with ⟨m,bx,h⟩ | h | ⟨h,h',h''⟩
  ·rw [atBs h] at hh;rcases hB2.2 m j bx h with ⟨_,hw⟩ | ⟨hbx,_⟩
   ·rw [hw] at hh;cases hh
   ·subst hbx;exact .inl ⟨m,h⟩
  ·exact .inr (.inl h)
  ·refine .inr (.inr ⟨h,h',h'',?_⟩)
   rw [atOther h] at hh;split at hh
   ·cases hx:hat H j with
    | fresh=>rw [hx] at hh;cases hh
    | dead=>rw [hx] at hh;cases hh
    | row a b c=>exact ⟨a,b,c,hx⟩
   ·exact ⟨sz,es,lv,hh⟩
 have imU: ∀ {k j:Nat} {blk:Blk},im[k]? = some (j,blk)→ ∃u,U[k]? = some u∧isRow H1 u∧qt G G1 (im.map (·.1)) U j=G1 u:=by
  intro k j blk h;obtain ⟨u,hu,hg⟩:=gIm h
  obtain ⟨u',sz2,es2,es2',b2,cap2,e1,e2,e3,e4,_⟩:=hE.row k j blk h
  rw [hu] at e1;injection e1 with e1;subst e1;exact ⟨u,hu,⟨_,_,_,e3⟩,hg⟩
 refine ⟨hadv,ZU hI hsz ?_ ?_ ?_ hframe ?_ ?_ ?_ ?_,?_⟩
 ·have:=hI1.os;rw [hW1] at this;exact this
 ·have:=hI1.tape;rw [hW1] at this;exact this
 ·have:=hI1.output;rw [hW1] at this;exact this
 ·intro j sz es lv hh;rcases cases2 j with ⟨m,bx,h⟩ | ⟨k,blk,h⟩ | ⟨h,h',h''⟩
  ·have hh':=hh
   rw [atBs h] at hh;rcases hB2.2 m j bx h with ⟨_,hw⟩ | ⟨hbx,hk,sz2,es2,es2',b2,cap2,hw,hat1,hg,hrow⟩
   ·rw [hw] at hh;cases hh
   ·rw [hw] at hh;simp only [Option.map_some,Option.getD_some,Blk.row.injEq] at hh;obtain ⟨rfl,rfl,rfl⟩:=hh
    have hGm:=hG1 m j bx h
    simp only [Nat.zero_add] at hg;rw [hGm] at hg;obtain ⟨sz3,es3,hh3⟩:=bsrow h
    obtain ⟨b4,cap4,k1,k2,_⟩:=hI.rows j sz3 es3 true hh3
    rw [hg] at k1;injection k1 with e1 e2 e3;subst e1;subst e2;subst e3;refine ⟨b2,cap2,by rw [gBs h];exact hg,k2,hrow.mono (fun v d hv=> .closed ?_) rfl⟩
    rcases hfz with hf | ⟨_,hf,_⟩
    ·exact cell1 _ _ (okdata hf V2 hU2 hK2) hv
    ·rw [hf] at h;simp at h
  ·obtain ⟨u,hu,hg⟩:=gIm h
   obtain ⟨u',sz2,es2,es2',b2,cap2,e1,e2,e3,e4,e5⟩:=hE.row k j blk h
   rw [hu] at e1;injection e1 with e1;subst e1;subst e2;have hb:hat (ye H (ws++im)) j= .row sz2 es2' true:=atIm h
   have hsame:sz=sz2∧es=es2':=by
    rw [hat2,hb] at hh;split at hh<;>(simp only [freeze,Blk.row.injEq] at hh;exact ⟨hh.1.symm,hh.2.1.symm⟩)
   obtain ⟨rfl,rfl⟩:=hsame
   have hb2:=own1 ⟨_,_,_,e3⟩ e4
   refine ⟨b2,cap2,by rw [hg];exact e4,?_,?_⟩
   ·rcases hb2 with hb2 | hb2
    ·rw [hL1] at hb2;obtain ⟨m,id,bx,cap,sz',h1,h2⟩:=hb2
     obtain ⟨sz3,es3,hh3⟩:=bsrow h1
     obtain ⟨b4,cap4,k1,k2,_⟩:=hI.rows id sz3 es3 true hh3
     rw [h2] at k1;injection k1 with q1 _ _;subst q1;exact k2
    ·exact .inr (Nat.le_trans hI.size hb2)
   ·obtain ⟨⟨c,T,r1,r2,r3⟩,r4,r5,r6⟩:=e5
    refine ⟨⟨c,T,r1,r2,fun i jj e d he hd=> ?_⟩,r4,r5,r6⟩
    obtain ⟨v,a1,a2,a3⟩:=r3 i jj e d he hd
    exact ⟨v,a1,a2,.closed (datIm h (List.mem_of_getElem? he) (List.mem_of_getElem? hd) v a3)⟩
  ·have hrowH: ∃lv',hat H j= .row sz es lv':=by
    rw [atOther h] at hh;split at hh
    ·cases hx:hat H j with
     | fresh=>rw [hx] at hh;cases hh
     | dead=>rw [hx] at hh;cases hh
     | row x y z=>
      rw [hx] at hh;simp only [freeze,Blk.row.injEq] at hh;obtain ⟨rfl,rfl,_⟩:=hh
      exact ⟨z,rfl⟩
    ·exact ⟨lv,hh⟩
   obtain ⟨lv',hh'⟩:=hrowH
   obtain ⟨b,cap,k1,k2,k3⟩:=hI.rows j sz es lv' hh'
   refine ⟨b,cap,by rw [zY h'];exact k1,k2,k3.mono (fun v d hv=>hadv.rep hv) ?_⟩
   have:=hI1.frame b (by rw [hW1];exact k3.lt) (fun hl=>by
    rw [hL1] at hl;obtain ⟨m,id,bx,cap',sz',h1,h2⟩:=hl
    have:=hI.inj _ _ _ _ _ _ _ ⟨_,_,_,hh'⟩ (bsrow' h1) k1 h2
    subst this;exact h'' m bx h1)
   rw [hW1] at this;exact this
 ·intro j hh;rcases cases2 j with ⟨m,bx,h⟩ | ⟨k,blk,h⟩ | ⟨h,h',h''⟩
  ·rw [atBs h] at hh;rcases hB2.2 m j bx h with ⟨_,hw⟩ | ⟨_,_,sz2,es2,es2',b2,cap2,hw,_⟩<;>(rw [hw] at hh;cases hh)
  ·obtain ⟨u',sz2,es2,es2',b2,cap2,e1,e2,e3,e4,e5⟩:=hE.row k j blk h
   rw [hat2,atIm h,e2] at hh;split at hh<;>cases hh
  ·rw [zY h'];refine hI.fresh j ?_
   rw [atOther h] at hh;split at hh
   ·cases hx:hat H j<;>rw [hx] at hh<;>simp [freeze] at hh ⊢
   ·exact hh
 ·intro j hh;rcases cases2 j with ⟨m,bx,h⟩ | ⟨k,blk,h⟩ | ⟨h,h',h''⟩
  ·rw [gBs h];obtain ⟨sz,es,es',b,cap,_,hg,_⟩:=hp.row m j bx h
   rw [hg];simp
  ·obtain ⟨u',sz2,es2,es2',b2,cap2,e1,e2,e3,e4,e5⟩:=hE.row k j blk h
   rw [hat2,atIm h,e2] at hh;split at hh<;>cases hh
  ·rw [zY h'];refine hI.dead j ?_
   rw [atOther h] at hh;split at hh
   ·cases hx:hat H j<;>rw [hx] at hh<;>simp [freeze] at hh ⊢
   ·exact hh
 ·intro i j b cap sz cap' sz' r1 r2 h1 h2;rcases row2 r1 with ⟨m,hm⟩ | ⟨k,blk,hk⟩ | ⟨a1,a2,a3,a4⟩<;>rcases row2 r2 with ⟨m',hm'⟩ | ⟨k',blk',hk'⟩ | ⟨b1,b2,b3,b4⟩
  ·rw [gBs hm] at h1;rw [gBs hm'] at h2;exact hI.inj _ _ _ _ _ _ _ (bsrow' hm) (bsrow' hm') h1 h2
  ·rw [gBs hm] at h1;obtain ⟨u,hu,ru,hg⟩:=imU hk'
   rw [hg] at h2;rw [←hG1 m i true hm] at h1;rcases hB2.2 m i true hm with ⟨hf,_⟩ | ⟨_,hbk,sz2,es2,es2',b2,cap2,_,hat1,_⟩
   ·cases hf
   ·simp only [Nat.zero_add] at hat1 hbk;have:=hI1.inj _ _ _ _ _ _ _ ⟨_,_,_,hat1⟩ ru h1 h2
    subst this;exact (jm hU3 (List.mem_of_getElem? hu) hbk).elim
  ·rw [gBs hm] at h1;rw [zY b2] at h2;exact hI.inj _ _ _ _ _ _ _ (bsrow' hm) b4 h1 h2
  ·rw [gBs hm'] at h2;obtain ⟨u,hu,ru,hg⟩:=imU hk
   rw [hg] at h1;rw [←hG1 m' j true hm'] at h2;rcases hB2.2 m' j true hm' with ⟨hf,_⟩ | ⟨_,hbk,sz2,es2,es2',b2,cap2,_,hat1,_⟩
   ·cases hf
   ·simp only [Nat.zero_add] at hat1 hbk;have:=hI1.inj _ _ _ _ _ _ _ ⟨_,_,_,hat1⟩ ru h2 h1
    subst this;exact (jm hU3 (List.mem_of_getElem? hu) hbk).elim
  ·obtain ⟨u,hu,ru,hg⟩:=imU hk
   obtain ⟨u',hu',ru',hg'⟩:=imU hk'
   rw [hg] at h1;rw [hg'] at h2;have:=hI1.inj _ _ _ _ _ _ _ ru ru' h1 h2
   subst this;have:=Yv hU hu hu'
   subst this;rw [hk] at hk';injection hk' with hk';rw [Prod.mk.injEq] at hk';exact hk'.1
  ·obtain ⟨u,hu,ru,hg⟩:=imU hk
   rw [hg] at h1;rw [zY b2] at h2;rcases own1 ru h1 with h | h
   ·rw [hL1] at h;obtain ⟨m,id,bx,cap2,sz2,q1,q2⟩:=h
    have:=hI.inj _ _ _ _ _ _ _ b4 (bsrow' q1) h2 q2
    subst this;exact (b3 m bx q1).elim
   ·have:=old b4 h2;omega
  ·rw [zY a2] at h1;rw [gBs hm'] at h2;exact hI.inj _ _ _ _ _ _ _ a4 (bsrow' hm') h1 h2
  ·obtain ⟨u,hu,ru,hg⟩:=imU hk'
   rw [hg] at h2;rw [zY a2] at h1;rcases own1 ru h2 with h | h
   ·rw [hL1] at h;obtain ⟨m,id,bx,cap2,sz2,q1,q2⟩:=h
    have:=hI.inj _ _ _ _ _ _ _ a4 (bsrow' q1) h1 q2
    subst this;exact (a3 m bx q1).elim
   ·have:=old a4 h1;omega
  ·rw [zY a2] at h1;rw [zY b2] at h2;exact hI.inj _ _ _ _ _ _ _ a4 b4 h1 h2
 ·intro j v x hv hx;rcases hE.res j v x hv hx with h | ⟨k,q,blk,u,b,cap,sz,len,rfl,h1,h2,h3,h4⟩
  ·exact .closed (datRes x (List.mem_of_getElem? hx) v h)
  ·have hg:qt G G1 (im.map (·.1)) U q=G1 u:=za5 hqn (by rw [List.getElem?_map,h1];rfl) h2
   refine .ref q 0 len v (by rw [hg,h3];simp) (fun b' cap' sz' hh=> ?_) ?_
   ·rw [hg,h3] at hh;injection hh with e1 e2 e3;subst e1;subst e2;subst e3;exact h4
   ·obtain ⟨_,A,rfl,_⟩:=h4;rfl
theorem X1 {K:Value→World→Prop}{f:Nat}{args:Array Value}(h:(execOp a.eval o).run P w= .ok (.enter f args) w)
  (hc:Calls P f args w fun e w'=> ∃v,e= .returned v∧K v w'):yo P o a w K:=by
 intro next Q hn;unfold Oper.wp;rw [h];refine hc.mono fun e w' he=> ?_
 obtain ⟨v,rfl,hk⟩:=he
 exact hn v w' hk
def V0 (P : Program)(f : Nat) : Prop := ∃ fn, P.funcs[f]? = some fn ∧ (fn.name == "runtime.NumGoroutine") = false ∧ fn.body.isNone = false
theorem zav {f t:Nat}{xs:List Operand}{ats:Array TypeId}(ho:o.op= .call { callee:= .value (.func f),args:=xs.toArray,argTypes:=ats })(hf:V0 P f) :
  (execOp a.eval o).run P w= .ok (.enter f (xs.map a.eval).toArray) w:=by
 obtain ⟨fn,h1,h2,h3⟩:=hf
 have h2' : ¬ fn.name = "runtime.NumGoroutine" := by simpa using h2
 have h3': ¬fn.body=none:=by
  intro e;rw [e] at h3;cases h3
 simp [execOp,ho,resolve,Act.eval,Deferred.ofValue,invoke,callFunc,h1,h2',h3']
theorem zap (hts:TsR (Rep fm G (okB B G H w) w) a.tmps ts): ∀ {xs:List Operand} {qs:List (Nat×PX)},TrA fm xs qs →
  (xs.map a.eval).length=(qs.map fun p=>(p.1,p.2.ev ts)).length ∧
  ∀(j:Nat) (v:Value) (q:Nat×D),(xs.map a.eval)[j]? = some v→(qs.map fun p=>(p.1,p.2.ev ts))[j]? = some q→Rep fm G (okB B G H w) w v q.2
 | [],[],.nil=>⟨rfl,by simp⟩
 | x::xs,(m,px)::qs,.cons hx h=>by
  obtain ⟨h1,h2⟩:=zap hts h
  refine ⟨by simpa using h1,fun j v q hv hq=> ?_⟩
  cases j with
  | zero=>
   simp at hv hq;subst hv;subst hq;exact zr hts hx
  | succ j=>exact h2 j v q (by simpa using hv) (by simpa using hq)
theorem zau {d:D}(h:jn d=true){ok ok':Nat→Prop}{v:Value}(hr:RepC fm ok w v d):RepC fm ok' w v d:=by
 cases hr with
 | undef v=>exact .undef v
 | skip=>exact .skip
 | bool b=>exact .bool b
 | int k n=>exact .int k n
 | flt a m hb=>exact .flt a m hb
 | str s=>exact .str s
 | nil=>exact .nil
 | lst0=>simp [jn] at h
 | lst1=>simp [jn] at h
 | fptr=>simp [jn] at h
 | nilp=>exact .nilp
 | agg=>simp [jn] at h
 | fn f=>exact .fn f
theorem zdB {d:D}(h:qE d=true){ok ok':Nat→Prop}{v:Value}(hr:RepC fm ok w v d):RepC fm ok' w v d:=by
 cases hr with
 | agg cs vs hl hone hrep=>
  simp only [qE,List.all_eq_true] at h;exact .agg cs vs hl hone (fun j d v h1 h2=>zau (h d (List.mem_of_getElem? h1)) (hrep j d v h1 h2))
 | undef v=>exact .undef v
 | skip=>exact .skip
 | bool b=>exact .bool b
 | int k n=>exact .int k n
 | flt a m hb=>exact .flt a m hb
 | str s=>exact .str s
 | nil=>exact .nil
 | lst0=>simp [qE,jn] at h
 | lst1=>simp [qE,jn] at h
 | fptr=>simp [qE,jn] at h
 | nilp=>exact .nilp
 | fn f=>exact .fn f
theorem zaM: ∀ {l:List D} {r:Nat},l.all qE=true→(∀x∈(zA r l).1,qE x=true ∨ ∃q len,x= .ref q 0 len) ∧
  ∀(k q sz:Nat) (es:List (List D)) (lv:Bool) (e:List D) (x:D),(zA r l).2[k]? = some (q,Blk.row sz es lv)→e∈es→x∈e→jn x=true
 | [],r,_=>by simp [zA]
 | d::l,r,h=>by
  simp only [List.all_cons,Bool.and_eq_true] at h;obtain ⟨h1,h2⟩:=zaM (r:=r+1) h.2
  have hd:=h.1
  unfold zA;by_cases ho: ∃sz es,d= .own sz es
  ·obtain ⟨sz,es,rfl⟩:=ho
   refine ⟨fun x hx=> ?_,fun k q sz' es' lv e x hk he hx=> ?_⟩
   ·simp only [jY,List.mem_cons] at hx;rcases hx with rfl | hx
    ·exact .inr ⟨_,_,rfl⟩
    ·exact h1 x hx
   ·simp only [jY,List.singleton_append] at hk
    cases k with
    | zero=>
     simp at hk;obtain ⟨rfl,rfl,rfl,rfl⟩:=hk
     simp only [qE,List.all_eq_true] at hd;exact hd e he x hx
    | succ k=>exact h2 k q sz' es' lv e x (by simpa using hk) he hx
  ·have him:jY r d=(d,[]):=by
    unfold jY;split
    ·exact absurd ⟨_,_,rfl⟩ ho
    ·rfl
   rw [him];refine ⟨fun x hx=> ?_,fun k q sz' es' lv e x hk he hx=>h2 k q sz' es' lv e x (by simpa using hk) he hx⟩
   simp only [List.mem_cons] at hx;rcases hx with rfl | hx
   ·exact .inl hd
   ·exact h1 x hx
theorem zdE {f t:Nat}{x:Operand}{xs:List Operand}{ats:Array TypeId}(ho:o.op= .call { callee:= .value x,args:=xs.toArray,argTypes:=ats })(hv:a.eval x= .func (.func f) #[] #[])(hf:V0 P f) :
  (execOp a.eval o).run P w= .ok (.enter f (xs.map a.eval).toArray) w:=by
 obtain ⟨fn,h1,h2,h3⟩:=hf
 have h2' : ¬ fn.name = "runtime.NumGoroutine" := by simpa using h2
 have h3': ¬fn.body=none:=by
  intro e;rw [e] at h3;cases h3
 simp [execOp,ho,resolve,hv,Deferred.ofValue,invoke,callFunc,h1,h2',h3']
theorem zaB (hs:Js P fm call)(hI:Inv fm B w G H)(hts:TsR (Rep fm G (okB B G H w) w) a.tmps ts){f:Nat}{xs:List Operand}{qs:List (Nat×PX)}
  (he:(execOp a.eval o).run P w= .ok (.enter (fm f) (xs.map a.eval).toArray) w) (hx:TrA fm xs qs)
  (hrun:(opE call (PX.ev ts) r (.call f qs)).run H=some out):yo P o a w (yp fm B w G H out):=by
 obtain ⟨hl,hr⟩:=zap (B:=B) (G:=G) (H:=H) (w:=w) hts hx
 obtain ⟨p,h1,h2⟩:=run_bind' (by exact hrun)
 obtain ⟨p1,p2⟩:=JX hI hl hr h1
 split at h2
 ·rename_i hc;simp only [Bool.and_eq_true] at hc;obtain ⟨c1,c2⟩:=hc
  cases hcall:call f p.args p.rows with
  | none=>rw [hcall] at h2;simp [Eff.run] at h2
  | some x=>
   rw [hcall] at h2;simp only at h2
   cases hfin:finish r p x.1 x.2 with
   | none=>rw [hfin] at h2;simp [Eff.run] at h2
   | some fo=>
    rw [hfin] at h2;obtain ⟨rfl,n2⟩:=zfP h2
    unfold finish at hfin;simp only [Option.bind_eq_some_iff] at hfin;obtain ⟨ex,e1,eb,e2,e3⟩:=hfin
    split at e3
    ·rename_i hc2;simp only [Option.some.injEq] at e3;subst e3;simp only [Bool.and_eq_true] at hc2;obtain ⟨⟨⟨⟨⟨d1,d2⟩,d3⟩,d4⟩,d5⟩,d6⟩:=hc2
     let L:Nat→Prop:=fun b=> ∃(m id:Nat) (bx:Bool) (cap sz:Nat),p.bs[m]? = some (id,bx)∧G id= .row b cap sz
     let B1:qo:= { A:=fun b=>okI (okB B G H w) G H p.ids b∧ ¬L b,W0:=w,L0:=L }
     let G0:Gh:=fun m=>match p.bs[m]? with | some (id,_)=>G id | none=> .fresh
     have hG0: ∀(m id:Nat) (bx:Bool),p.bs[m]? = some (id,bx)→G0 m=G id:=fun m id bx hm=>by show (match p.bs[m]? with | some (id,_)=>G id | none=> .fresh)=_;rw [hm]
     have hlt: ∀b,okI (okB B G H w) G H p.ids b→b<w.heap.size:=by
      rintro b (h | ⟨id,_,hr,cap,sz,hg⟩)
      ·exact h.2.2
      ·exact hI.blk_lt hr hg
     have hnl: ∀b,okI (okB B G H w) G H p.ids b→ ¬L b:=by
      rintro b hb ⟨m,id,bx,cap,sz,h1,h2⟩
      obtain ⟨sz',es,_,b',cap',hh,_⟩:=p2.row m id bx h1
      rcases hb with h | ⟨id',hid',hr,cap2,sz2,hg⟩
      ·exact h.2.1 ⟨id,sz',es,cap,sz,hh,h2⟩
      ·have:=hI.inj _ _ _ _ _ _ _ ⟨_,_,_,hh⟩ hr h2 hg
       subst this;exact jm c2 (List.mem_map.2 ⟨(id,bx),List.mem_of_getElem? h1,rfl⟩) hid'
     have hLv0: ∀b,Lv G0 p.rows b→L b:=by
      rintro b ⟨m,sz,es,cap,sz',h1,h2⟩
      have h2':(match p.bs[m]? with | some (id,_)=>G id | none=>GS.fresh)= .row b cap sz':=h2
      cases hm:p.bs[m]? with
      | none=>rw [hm] at h2';cases h2'
      | some q=>rw [hm] at h2';exact ⟨m,q.1,q.2,cap,sz',hm,h2'⟩
     have hok0: ∀b,okI (okB B G H w) G H p.ids b→okB B1 G0 p.rows w b:=fun b hb=>⟨.inl ⟨hb,hnl b hb⟩,fun h=>hnl b hb (hLv0 b h),hlt b hb⟩
     have hup: ∀ {v:Value} {d:D},RepC fm (okI (okB B G H w) G H p.ids) w v d→Rep fm G0 (okB B1 G0 p.rows w) w v d:=fun h=> .closed (h.mono fm hok0 (fun _ _ _ _ h=>h))
     have hrow0: ∀ {m sz:Nat} {es:List (List D)} {lv:Bool},hat p.rows m= .row sz es lv→ ∃id bx sz' es' b cap,p.bs[m]? = some (id,bx)∧hat H id= .row sz es' true∧G id= .row b cap sz∧sz'=sz∧RowOk (RepC fm (okI (okB B G H w) G H p.ids) w) w sz es b cap:=by
      intro m sz es lv h;have hm:m<p.rows.length:=XA (by rw [h];simp)
      have hmb:m<p.bs.length:=by rw [←p2.rows];exact hm
      obtain ⟨sz',es',es'',b,cap,k1,k2,k3,k4⟩:=p2.row m p.bs[m].1 p.bs[m].2 (List.getElem?_eq_getElem hmb)
      have:hat p.rows m= .row sz' es'' true:=by unfold hat;rw [List.getD_eq_getElem?_getD,k3];rfl
      rw [h] at this;injection this with q1 q2 q3;subst q1;subst q2;exact ⟨_,_,_,es',b,cap,List.getElem?_eq_getElem hmb,k1,k2,rfl,k4⟩
     have hI0:Inv fm B1 w G0 p.rows:=by
      refine ⟨Nat.le_refl _,rfl,rfl,rfl,fun _ _ _=>rfl,fun m sz es lv h=> ?_,fun m h=> ?_,fun m h=> ?_,fun i j b cap sz cap' sz' r1 r2 h1 h2=> ?_,fun b hb=>⟨hb.2,hlt b hb.1⟩⟩
      ·obtain ⟨id,bx,_,es',b,cap,k1,k2,k3,_,k5⟩:=hrow0 h
       exact ⟨b,cap,by rw [hG0 m id bx k1];exact k3,.inl ⟨m,id,bx,cap,sz,k1,k3⟩,k5.mono (fun v d hv=>hup hv) rfl⟩
      ·show (match p.bs[m]? with | some (id,_)=>G id | none=>GS.fresh)= .fresh
       cases hm:p.bs[m]? with
       | none=>rfl
       | some q=>
        obtain ⟨sz',es',es'',b,cap,k1,k2,k3,k4⟩:=p2.row m q.1 q.2 hm
        have:hat p.rows m= .row sz' es'' true:=by unfold hat;rw [List.getD_eq_getElem?_getD,k3];rfl
        rw [h] at this;cases this
      ·exfalso
       have hm:m<p.bs.length:=by rw [←p2.rows];exact XA (by rw [h];simp)
       obtain ⟨sz',es',es'',b,cap,k1,k2,k3,k4⟩:=p2.row m p.bs[m].1 p.bs[m].2 (List.getElem?_eq_getElem hm)
       have:hat p.rows m= .row sz' es'' true:=by unfold hat;rw [List.getD_eq_getElem?_getD,k3];rfl
       rw [h] at this;cases this
      ·obtain ⟨sz1,es1,lv1,hh1⟩:=r1
       obtain ⟨sz2,es2,lv2,hh2⟩:=r2
       obtain ⟨id1,bx1,_,es1',b1,cap1,k1,k2,k3,_,_⟩:=hrow0 hh1
       obtain ⟨id2,bx2,_,es2',b2,cap2,l1,l2,l3,_,_⟩:=hrow0 hh2
       rw [hG0 i id1 bx1 k1] at h1;rw [hG0 j id2 bx2 l1] at h2;have:=hI.inj _ _ _ _ _ _ _ ⟨_,_,_,k2⟩ ⟨_,_,_,l2⟩ h1 h2
       subst this;exact Yv c1 (x:=id1) (by rw [List.getElem?_map,k1];rfl) (by rw [List.getElem?_map,l1];rfl)
     have hargs: ∀(j:Nat) (v:Value) (y:D),(xs.map a.eval)[j]? = some v→p.args[j]? = some y→Rep fm G0 (okB B1 G0 p.rows w) w v y:=by
      intro j v y hv hy;rcases p2.arg j v y hv hy with h | ⟨m,id,bx,b,cap,sz,len,rfl,k1,k2,k3⟩ | ⟨m,id,bx,b,cap,sz,rfl,k1,k2,rfl⟩
      ·exact hup h
      ·simp only [Nat.zero_add];refine .ref m 0 len v (by rw [hG0 m id bx k1,k2];simp) (fun b' cap' sz' hh=> ?_) (by obtain ⟨_,A,rfl,_⟩:=k3;rfl)
       rw [hG0 m id bx k1,k2] at hh;injection hh with q1 q2 q3;subst q1;subst q2;subst q3;exact k3
      ·simp only [Nat.zero_add];refine .ptr m 0 _ (by rw [hG0 m id bx k1,k2];simp) (fun b' cap' sz' hh=> ?_) rfl
       rw [hG0 m id bx k1,k2] at hh;injection hh with q1 q2 q3;subst q1;rfl
     have hcalls:=hs f p.args p.rows x.1 x.2 (by rw [hcall]) B1 w G0 (xs.map a.eval) hI0 (by rw [p1];exact hl) hargs
     refine X1 he (hcalls.mono fun e w1 he1=> ?_)
     obtain ⟨v,G1,rfl,hadv,hI1,hrep⟩:=he1
     refine ⟨v,rfl,?_⟩
     have hG1: ∀(m id:Nat) (bx:Bool),p.bs[m]? = some (id,bx)→G1 m=G id:=fun m id bx hm=>by
      obtain ⟨sz',es',es'',b,cap,k1,k2,k3,k4⟩:=p2.row m id bx hm
      have:=hadv.gh m
      rw [hG0 m id bx hm,k2] at this;simp only [GS.le] at this;rw [this,k2]
     have hcomps: ∃rv:List Value,rv.length=(qq x.1).length∧(∀(j:Nat) (u:Value) (y:D),rv[j]? = some u→(qq x.1)[j]? = some y→Rep fm G1 (okB B1 G1 x.2 w1) w1 u y) ∧
       (∀(G':Gh) (ok:Nat→Prop) (l:List D),l.length=(qq x.1).length→(∀(j:Nat) (u:Value) (y:D),rv[j]? = some u→l[j]? = some y→Rep fm G' ok w1 u y)→Rep fm G' ok w1 v (qa x.1 l)):=by
      by_cases ht: ∃vs,x.1= .tup vs
      ·obtain ⟨ds,ht⟩:=ht
       rw [ht] at hrep ⊢
       obtain ⟨us,rfl,hul,hur⟩:=hrep.inv_tup
       exact ⟨us,hul,fun j u y hu hy=>hur j y u hy hu,fun G' ok l hl h=> .tup l us (by rw [hl];exact hul) (fun j d u h1 h2=>h j u d h2 h1)⟩
      ·have hc:qq x.1= [x.1]:=by
        unfold qq;split
        ·rename_i vs hv;exact absurd ⟨vs,hv⟩ ht
        ·rfl
       rw [hc];refine ⟨[v],rfl,fun j u y hu hy=> ?_,fun G' ok l hl h=> ?_⟩
       ·cases j with
        | zero=>simp at hu hy;subst hu;subst hy;exact hrep
        | succ j=>simp at hu
       ·have hrc:qa x.1 l=l.headD .undef:=by
         unfold qa;split
         ·rename_i vs hv;exact absurd ⟨vs,by assumption⟩ ht
         ·rfl
        rw [hrc];match l,hl with
        | [y],_=>exact h 0 v y rfl rfl
     obtain ⟨rv,rv1,rv2,rv3⟩:=hcomps
     obtain ⟨m1,m2,m3,m4,m5⟩:=zfu hI1 rv1 rv2 e1 r
     have hB2:=UR hI1 e2
     have hfz: ∀fz:List Nat,fz=(if (p.bs.isEmpty&&ex.1.all qE)=true then [] else p.ids)→(fz=p.ids∨(fz= []∧p.bs= [] ∧
       ∀(y:D),y∈(zA r ex.1).1∨(∃(k q sz:Nat) (es:List (List D)) (lv:Bool) (e:List D),(zA r ex.1).2[k]? = some (q,Blk.row sz es lv)∧e∈es∧y∈e)→ ∀v ok ok',RepC fm ok w1 v y→RepC fm ok' w1 v y)):=by
      intro fz hfz;split at hfz
      ·rename_i hb;simp only [Bool.and_eq_true] at hb;refine .inr ⟨hfz,by simpa using hb.1,fun y hy u ok ok' hu=> ?_⟩
       obtain ⟨s1,s2⟩:=zaM (r:=r) hb.2
       rcases hy with hy | ⟨k,q,sz,es,lv,e,hk,he,hy⟩
       ·rcases s1 y hy with hy | ⟨q,len,rfl⟩
        ·exact zdB hy hu
        ·cases hu
       ·exact zau (s2 k q sz es lv e y hk he hy) hu
      ·exact .inl hfz
     obtain ⟨b1,b2,b3⟩:=zhL hI p2 c1 c2 (B1:=B1) rfl hI1 hG1 m3 m5 (fun q hq=>n2 q hq) hB2 d1 d2 d3 d4 d5 d6 (hfz _ rfl) rfl
     exact ⟨_,b1,b2,rv3 _ _ _ m2 b3⟩
    ·cases e3
 ·simp [Eff.run] at h2
theorem zhe (hs:Js P fm call)(hI:Inv fm B w G H)(hts:TsR (Rep fm G (okB B G H w) w) a.tmps ts){f:Nat}{xs:List Operand}{qs:List (Nat×PX)}{ats:Array TypeId}
  (ho:o.op= .call { callee:= .value (.func (fm f)),args:=xs.toArray,argTypes:=ats }) (hf:V0 P (fm f)) (hx:TrA fm xs qs)
  (hrun:(opE call (PX.ev ts) r (.call f qs)).run H=some out):yo P o a w (yp fm B w G H out):=
 zaB hs hI hts (zav (t:=0) ho hf) hx hrun
theorem zfY (hs:Js P fm call)(hI:Inv fm B w G H)(hts:TsR (Rep fm G (okB B G H w) w) a.tmps ts){fs:List Nat}{x:Operand}{px:PX}{xs:List Operand}{qs:List (Nat×PX)}{ats:Array TypeId}
  (ho:o.op= .call { callee:= .value x,args:=xs.toArray,argTypes:=ats }) (hv:TrX fm x px) (hf: ∀f∈fs,V0 P (fm f)) (hx:TrA fm xs qs)
  (hrun:(opE call (PX.ev ts) r (.callV fs px qs)).run H=some out):yo P o a w (yp fm B w G H out):=by
 have hvx:=zr hts hv
 simp only [opE] at hrun;split at hrun
 ·rename_i f e1;split at hrun
  ·rename_i hc;rw [e1] at hvx;obtain ⟨y,h1,h2⟩:=run_bind' hrun
   split at h2
   ·simp only [Eff.run,Option.some.injEq] at h2;subst h2;exact zaB (f:=f) hs hI hts (zdE (t:=0) ho hvx.inv_fn (hf f (by simpa using hc))) hx (by exact h1)
   ·simp [Eff.run] at h2
  ·simp [Eff.run] at hrun
 ·simp [Eff.run] at hrun
end
section
variable {P:Program} {fm:Nat→Nat} {w:World} {G:Gh} {ok:Nat→Prop}
def Fits (P:Program)(fm:Nat→Nat)(w:World)(G:Gh)(ok:Nat→Prop)(t:TypeId)(v:Value)(xs:List D):Prop:=
 ∃d,P.underlying t=some d∧((qh d=true∧Rep fm G ok w v (.agg xs))∨(qh d=false∧ ∃x,xs= [x]∧Rep fm G ok w v x))
theorem zhl {m:Nat}{t:TypeId}{ks:List Nat}(h:lay P m t=some ks): ∃d,P.underlying t=some d∧(qh d=false→ks.length=1):=by
 cases m with
 | zero=>simp [lay] at h
 | succ m=>
  simp only [lay] at h;split at h
  ·rename_i e;injection h with h;subst h;exact ⟨_,e,fun _=>rfl⟩
  ·rename_i k e;injection h with h;subst h;exact ⟨_,e,fun _=>rfl⟩
  ·rename_i e;injection h with h;subst h;exact ⟨_,e,fun _=>rfl⟩
  ·rename_i fs e;exact ⟨_,e,fun h=>by cases h⟩
  ·rename_i n k e;exact ⟨_,e,fun h=>by cases h⟩
  ·cases h
theorem Yu {m:Nat}{e:TypeId}{ks:List Nat}{i:TypeInfo}(hl:lay P m e=some ks)(hi:P.info? e=some i)(hsz:i.size=ks.length){vs:List Value}{cs:List D}(hc:CR (Rep fm G ok w) vs cs)
  {off:Nat} (hle:off+ks.length≤cs.length): ∃u,(part e vs.toArray off).run P w= .ok u w∧Fits P fm w G ok e u ((cs.drop off).take ks.length):=by
 obtain ⟨d,hd,h1⟩:=zhl hl
 cases hr:qh d with
 | true=>
  obtain ⟨u,hp,hr'⟩:=JY (P:=P) (w:=w) (t:=e) (ag:=true) (n:=ks.length) ⟨d,i,hd,hr,hi,hsz⟩ hc hle (d:= .agg ((cs.drop off).take ks.length)) (by simp [shaped]) (fun vs ds h=>qi vs h)
  exact ⟨u,hp,d,hd,.inl ⟨hr,hr'⟩⟩
 | false=>
  have h1':=h1 hr
  have hlt:off<cs.length:=by omega
  have hx:(cs.drop off).take ks.length= [cs[off]]:=by
   rw [h1',List.drop_eq_getElem_cons hlt];rfl
  obtain ⟨u,hp,hr'⟩:=JY (P:=P) (w:=w) (t:=e) (ag:=false) (n:=ks.length) ⟨d,i,hd,hr,hi,hsz⟩ hc hle (d:=cs[off]) (by rw [hx];rfl) (fun vs ds h=>qi vs h)
  exact ⟨u,hp,d,hd,.inr ⟨hr,_,hx,hr'⟩⟩
theorem YX: ∀(n:Nat) (xs ys:List D) {r:Bool},n≤xs.length→n≤ys.length→jo xs ys=some r →
  ∃b,jo (xs.take n) (ys.take n)=some b∧(if b then jo (xs.drop n) (ys.drop n)=some r else r=false)
 | 0,xs,ys,r,_,_,h=>⟨true,by simp [jo],by simpa using h⟩
 | n+1,[],ys,r,h1,_,h=>by simp at h1
 | n+1,x::xs,[],r,_,h2,h=>by simp at h2
 | n+1,x::xs,y::ys,r,h1,h2,h=>by
  simp only [jo,Option.bind_eq_some_iff] at h;obtain ⟨b,hb,h⟩:=h
  simp only [List.length_cons,Nat.add_le_add_iff_right] at h1 h2
  cases b with
  | false=>
   simp at h;exact ⟨false,by simp [jo,hb],by simp [h]⟩
  | true=>
   simp only [if_true] at h;obtain ⟨b',h3,h4⟩:=YX n xs ys h1 h2 h
   exact ⟨b',by simp [jo,hb,h3],by simpa using h4⟩
def zgU (P:Program)(fm:Nat→Nat)(w:World)(G:Gh)(ok:Nat→Prop)(d:Nat)(t:TypeId)(ks:List Nat):Prop:=
 ∀(xs ys:List D) (vx vy:Value) (r:Bool),Fits P fm w G ok t vx xs→Fits P fm w G ok t vy ys→xs.map yq=ks→ys.map yq=ks→jo xs ys=some r→(Op.equalIn d t vx vy).run P w= .ok r w
theorem JI {m d:Nat}(ih: ∀t ks,lay P m t=some ks→zgU P fm w G ok d t ks){vx vy:List Value}{cx cy:List D}(hx:CR (Rep fm G ok w) vx cx)(hy:CR (Rep fm G ok w) vy cy) :
  ∀(fs:List Field) (off:Nat) (ks:List Nat) (r:Bool),zer P (lay P m) fs off=some ks→(cx.drop off).map yq=ks→(cy.drop off).map yq=ks→jo (cx.drop off) (cy.drop off)=some r →
   (Op.eqFields d vx.toArray vy.toArray fs).run P w= .ok r w
 | [],off,ks,r,hl,h1,h2,h=>by
  simp only [zer,Option.some.injEq] at hl;subst hl;rw [List.map_eq_nil_iff] at h1 h2;rw [h1,h2] at h;simp [jo] at h
  subst h;simp [Op.eqFields]
 | f::fs,off,ks,r,hl,h1,h2,h=>by
  simp only [zer] at hl;split at hl
  ·rename_i hc;obtain ⟨hn,ho⟩:=hc
   simp only [Option.bind_eq_some_iff] at hl;obtain ⟨k1,hk1,i,hi,hl⟩:=hl
   split at hl
   ·rename_i hsz;obtain ⟨hsz,hpos⟩:=hsz
    simp only [Option.map_eq_some_iff] at hl;obtain ⟨k2,hk2,rfl⟩:=hl
    have l1:k1.length≤(cx.drop off).length:=by have:=congrArg List.length h1;simp at this ⊢;omega
    have l2:k1.length≤(cy.drop off).length:=by have:=congrArg List.length h2;simp at this ⊢;omega
    obtain ⟨b,hb1,hb2⟩:=YX k1.length _ _ l1 l2 h
    have t1:((cx.drop off).take k1.length).map yq=k1:=by rw [List.map_take,h1];simp
    have t2:((cy.drop off).take k1.length).map yq=k1:=by rw [List.map_take,h2];simp
    have d1:(cx.drop (off+k1.length)).map yq=k2:=by rw [←List.drop_drop,List.map_drop,h1];simp
    have d2:(cy.drop (off+k1.length)).map yq=k2:=by rw [←List.drop_drop,List.map_drop,h2];simp
    have e1:off+k1.length≤cx.length:=by simp only [List.length_drop] at l1;omega
    have e2:off+k1.length≤cy.length:=by simp only [List.length_drop] at l2;omega
    obtain ⟨u,hu,fu⟩:=Yu hk1 hi hsz hx e1
    obtain ⟨v,hv,fv⟩:=Yu hk1 hi hsz hy e2
    have hq:=ih _ _ hk1 _ _ _ _ _ fu fv t1 t2 hb1
    rw [Op.eqFields,if_pos hn,ho];simp only [Sem.run_bind,hu,hv,hq,Result.andThen_ok]
    cases b with
    | false=>
     simp only [Bool.false_eq_true,if_false] at hb2;subst hb2;rfl
    | true=>
     simp only [if_true,List.drop_drop] at hb2;exact JI ih hx hy fs (off+k1.length) k2 r hk2 d1 d2 hb2
   ·cases hl
  ·cases hl
theorem X8 {m d:Nat}{e:TypeId}{i:TypeInfo}{ks:List Nat}(hk:lay P m e=some ks)(hi:P.info? e=some i)(hsz:i.size=ks.length)(hpos:0<ks.length)(ih:zgU P fm w G ok d e ks)
  {vx vy:List Value} {cx cy:List D} (hx:CR (Rep fm G ok w) vx cx) (hy:CR (Rep fm G ok w) vy cy): ∀(n j:Nat) (r:Bool),
   (cx.drop (j*ks.length)).map yq=(List.replicate n ks).flatten→(cy.drop (j*ks.length)).map yq=(List.replicate n ks).flatten→jo (cx.drop (j*ks.length)) (cy.drop (j*ks.length))=some r →
   (Op.eqItems d e ks.length vx.toArray vy.toArray (List.range' j n)).run P w= .ok r w
 | 0,j,r,h1,h2,h=>by
  simp only [List.replicate_zero,List.flatten_nil,List.map_eq_nil_iff] at h1 h2;rw [h1,h2] at h;simp [jo] at h
  subst h;simp [Op.eqItems]
 | n+1,j,r,h1,h2,h=>by
  rw [List.replicate_succ,List.flatten_cons] at h1 h2;have l1:ks.length≤(cx.drop (j*ks.length)).length:=by have:=congrArg List.length h1;simp only [List.length_map,List.length_append] at this;omega
  have l2:ks.length≤(cy.drop (j*ks.length)).length:=by have:=congrArg List.length h2;simp only [List.length_map,List.length_append] at this;omega
  obtain ⟨b,hb1,hb2⟩:=YX ks.length _ _ l1 l2 h
  have t1:((cx.drop (j*ks.length)).take ks.length).map yq=ks:=by rw [List.map_take,h1];simp
  have t2:((cy.drop (j*ks.length)).take ks.length).map yq=ks:=by rw [List.map_take,h2];simp
  have d1:(cx.drop ((j+1)*ks.length)).map yq=(List.replicate n ks).flatten:=by rw [Nat.add_mul,Nat.one_mul,←List.drop_drop,List.map_drop,h1];simp
  have d2:(cy.drop ((j+1)*ks.length)).map yq=(List.replicate n ks).flatten:=by rw [Nat.add_mul,Nat.one_mul,←List.drop_drop,List.map_drop,h2];simp
  have e1:j*ks.length+ks.length≤cx.length:=by simp only [List.length_drop] at l1;omega
  have e2:j*ks.length+ks.length≤cy.length:=by simp only [List.length_drop] at l2;omega
  obtain ⟨u,hu,fu⟩:=Yu hk hi hsz hx e1
  obtain ⟨v,hv,fv⟩:=Yu hk hi hsz hy e2
  have hq:=ih _ _ _ _ _ fu fv t1 t2 hb1
  rw [List.range'_succ,Op.eqItems];simp only [Sem.run_bind,hu,hv,hq,Result.andThen_ok]
  cases b with
  | false=>
   simp only [Bool.false_eq_true,if_false] at hb2;subst hb2;rfl
  | true=>
   simp only [if_true,List.drop_drop] at hb2;refine X8 hk hi hsz hpos ih hx hy n (j+1) r d1 d2 ?_
   rw [Nat.add_mul,Nat.one_mul];exact hb2
theorem Yh {x y:D}{r:Bool}(h:jo [x] [y]=some r):eqC x y=some r:=by
 simp only [jo,Option.bind_eq_some_iff] at h;obtain ⟨b,hb,h⟩:=h
 cases b<;>simp at h<;>subst h<;>exact hb
theorem zfy: ∀(m d:Nat) (t:TypeId) (ks:List Nat),m≤d→lay P m t=some ks→zgU P fm w G ok d t ks
 | 0,d,t,ks,_,h=>by simp [lay] at h
 | m+1,0,t,ks,hle,_=>by omega
 | m+1,d+1,t,ks,hle,h=>by
  have ih: ∀t ks,lay P m t=some ks→zgU P fm w G ok d t ks:=fun t ks h=>zfy m d t ks (by omega) h
  intro xs ys vx vy r fx fy h1 h2 hr;obtain ⟨dx,hdx,gx⟩:=fx
  obtain ⟨dy,hdy,gy⟩:=fy
  rw [hdx] at hdy;injection hdy with hdy;subst hdy;simp only [lay] at h;split at h
  ·rename_i e;rw [hdx] at e;injection e with e;subst e;injection h with h;subst h;rcases gx with ⟨gx,_⟩ | ⟨_,x,rfl,gx⟩
   ·cases gx
   rcases gy with ⟨gy,_⟩ | ⟨_,y,rfl,gy⟩
   ·cases gy
   have hq:=Yh hr
   cases x<;>simp [yq] at h1
   cases y<;>simp [yq] at h2
   rename_i a b;simp only [eqC,Option.some.injEq] at hq;subst hq;rw [gx.inv_bool,gy.inv_bool];exact run_equalIn_bool w d t a b hdx
  ·rename_i k e;rw [hdx] at e;injection e with e;subst e;injection h with h;subst h;rcases gx with ⟨gx,_⟩ | ⟨_,x,rfl,gx⟩
   ·cases gx
   rcases gy with ⟨gy,_⟩ | ⟨_,y,rfl,gy⟩
   ·cases gy
   have hq:=Yh hr
   cases x<;>simp [yq] at h1
   cases y<;>simp [yq] at h2
   rename_i k1 a k2 b;simp only [eqC] at hq;split at hq
   ·rename_i hk;subst hk;injection hq with hq;subst hq;rw [gx.inv_int,gy.inv_int];exact run_equalIn_int w d t k1 k a b hdx
   ·cases hq
  ·rename_i e;rw [hdx] at e;injection e with e;subst e;injection h with h;subst h;rcases gx with ⟨gx,_⟩ | ⟨_,x,rfl,gx⟩
   ·cases gx
   rcases gy with ⟨gy,_⟩ | ⟨_,y,rfl,gy⟩
   ·cases gy
   have hq:=Yh hr
   cases x<;>simp [yq] at h1
   cases y<;>simp [yq] at h2
   rename_i a b;simp only [eqC,Option.some.injEq] at hq;subst hq;rw [gx.inv_str,gy.inv_str];rw [run_equalIn_string w d t _ _ hdx];simp [ByteArray.toList_eq]
  ·rename_i fs e;rw [hdx] at e;injection e with e;subst e;split at h
   ·rename_i hst;rcases gx with ⟨_,gx⟩ | ⟨gx,_⟩
    rotate_left
    ·cases gx
    rcases gy with ⟨_,gy⟩ | ⟨gy,_⟩
    rotate_left
    ·cases gy
    obtain ⟨ux,rfl,cx⟩:=yH gx
    obtain ⟨uy,rfl,cy⟩:=yH gy
    have hf:P.fieldsOf t=fs:=by simp [Program.fieldsOf,hdx]
    rw [run_equalIn_struct w d t _ _ (by rw [hf];exact hdx) hst,hf]
    exact JI ih cx cy fs.toList 0 ks r h (by simpa using h1) (by simpa using h2) (by simpa using hr)
   ·cases h
  ·rename_i n e he;rw [hdx] at he;injection he with he;subst he;simp only [Option.bind_eq_some_iff] at h;obtain ⟨k1,hk1,i,hi,h⟩:=h
   split at h
   ·rename_i hc;obtain ⟨hsz,hpos⟩:=hc
    injection h with h;subst h;rcases gx with ⟨_,gx⟩ | ⟨gx,_⟩
    rotate_left
    ·cases gx
    rcases gy with ⟨_,gy⟩ | ⟨gy,_⟩
    rotate_left
    ·cases gy
    obtain ⟨ux,rfl,cx⟩:=yH gx
    obtain ⟨uy,rfl,cy⟩:=yH gy
    rw [run_equalIn_array w d _ _ hdx hi,show P.cellsOf e=k1.length by simp [Program.cellsOf,hi,hsz],List.range_eq_range']
    exact X8 hk1 hi hsz hpos (ih _ _ hk1) cx cy n 0 r (by simpa using h1) (by simpa using h2) (by simpa using hr)
   ·cases h
  ·cases h
variable {B:qo} {H:zf} {o:Oper} {a:Act} {ts:List D} {call:zy} {r:Nat} {out:Out}
theorem zjt (hI:Inv fm B w G H)(hts:TsR (Rep fm G (okB B G H w) w) a.tmps ts){neg:Bool}{m:Nat}{t u:TypeId}{ks:List Nat}{td:TypeDesc}{x y:Operand}{px py:PX}
  (ho:o.op= .binOp (if neg then .neq else .eql) t x y u) (ht:P.underlying t=some td) (hag:qh td=true) (hg:P.eqGuardType P.depth t=false) (hl:lay P m t=some ks) (hm:m≤1000)
  (hx:TrX fm x px) (hy:TrX fm y py) (hrun:(opE call (PX.ev ts) r (.eqA neg ks px py)).run H=some out):yo P o a w (yp fm B w G H out):=by
 have hvx:=zr hts hx
 have hvy:=zr hts hy
 simp only [opE] at hrun;split at hrun
 ·rename_i xs ys e1 e2;split at hrun
  ·rename_i hk;obtain ⟨d,hd,rfl⟩:=zL hrun
   simp only [Option.map_eq_some_iff] at hd;obtain ⟨t',hn,rfl⟩:=hd
   rw [e1] at hvx;rw [e2] at hvy;obtain ⟨ux,vx,cx⟩:=yH hvx
   obtain ⟨uy,vy,cy⟩:=yH hvy
   have he:(Op.equal t (.agg ux.toArray) (.agg uy.toArray)).run P w= .ok t' w:=by
    rw [vx] at hvx;rw [vy] at hvy;exact zfy m Op.maxDepth t ks (Nat.le_trans hm (by decide)) hl xs ys _ _ t' ⟨td,ht,.inl ⟨hag,hvx⟩⟩ ⟨td,ht,.inl ⟨hag,hvy⟩⟩ hk.1 hk.2 hn
   refine zm (v:= .bool (if neg then !t' else t')) (w':=w) ?_ (zj hI (.closed (.bool _)))
   cases neg<;>simp only [Bool.false_eq_true,if_true,if_false] at ho ⊢ <;>
    simp [execOp,ho,Sem.run_bind,vx,vy,eqGuard,hg,binOp,he]
  ·simp [Eff.run] at hrun
 ·simp [Eff.run] at hrun
theorem zfS (hI:Inv fm B w G H)(hts:TsR (Rep fm G (okB B G H w) w) a.tmps ts){s d:TypeId}{x:Operand}{px:PX}(ho:o.op= .convert s d x)
  (hs:(P.underlying s).isSome=true) (hd:P.underlying d=some (.float .f64)) (hx:TrX fm x px) (hrun:(opE call (PX.ev ts) r (.conv .toFlt px)).run H=some out):yo P o a w (yp fm B w G H out):=by
 have hv:=zr hts hx
 simp only [opE] at hrun;split at hrun
 ·rename_i k' n e1;obtain rfl:=zB hrun
  rw [e1] at hv;have vx:=hv.inv_int
  obtain ⟨sd,hsd⟩:=Option.isSome_iff_exists.1 hs
  refine zm (v:= .float .f64 (FloatKind.f64.nearest n)) (w':=w) ?_ (zj hI (.closed (.flt (some _) _ rfl)))
  simp [execOp,ho,vx,convert,run_underlying hsd,run_underlying hd,Conv.intToFloat]
 ·simp [Eff.run] at hrun
theorem zhf (hI:Inv fm B w G H)(hts:TsR (Rep fm G (okB B G H w) w) a.tmps ts){f:Nat}{x:Operand}{px:PX}{ats:Array TypeId}(ho:o.op= .call { callee:= .value (.func f),args := #[x],argTypes:=ats })
  (hf:jb P f true) (hx:TrX fm x px) (hrun:(opE call (PX.ev ts) r (.bits px)).run H=some out):yo P o a w (yp fm B w G H out):=by
 have hv:=zr hts hx
 simp only [opE] at hrun;split at hrun
 ·rename_i b e1;obtain rfl:=zB hrun
  rw [e1] at hv;obtain ⟨b,vx,hm⟩:=hv.inv_flt
  cases hm;simp only [jb,if_true] at hf;refine zm (v:= .int .u64 (b:Int)) (w':=w) ?_ (zj hI (.closed (.int _ _)))
  have he:(execOp a.eval o).run P w=(callFunc f #[a.eval x]).run P w:=by simp [execOp,ho,resolve,Act.eval,Deferred.ofValue,invoke]
  rw [he,vx];exact hf b w
 ·rename_i e1;obtain rfl:=zB hrun
  rw [e1] at hv;obtain ⟨b,vx,_⟩:=hv.inv_flt
  simp only [jb,if_true] at hf;refine zm (v:= .int .u64 (b:Int)) (w':=w) ?_ (zj hI (.closed (.undef _)))
  have he:(execOp a.eval o).run P w=(callFunc f #[a.eval x]).run P w:=by simp [execOp,ho,resolve,Act.eval,Deferred.ofValue,invoke]
  rw [he,vx];exact hf b w
 ·simp [Eff.run] at hrun
theorem zdL (hI:Inv fm B w G H)(hts:TsR (Rep fm G (okB B G H w) w) a.tmps ts){f:Nat}{x:Operand}{px:PX}{ats:Array TypeId}(ho:o.op= .call { callee:= .value (.func f),args := #[x],argTypes:=ats })
  (hf:jb P f false) (hx:TrX fm x px) (hrun:(opE call (PX.ev ts) r (.ofBits px)).run H=some out):yo P o a w (yp fm B w G H out):=by
 have hv:=zr hts hx
 simp only [opE] at hrun;split at hrun
 ·rename_i n e1;obtain rfl:=zB hrun
  rw [e1] at hv;have vx:=hv.inv_int
  simp only [jb,Bool.false_eq_true,if_false] at hf;refine zm (v:= .float .f64 n.toNat) (w':=w) ?_ (zj hI (.closed (.flt (some _) _ rfl)))
  have he:(execOp a.eval o).run P w=(callFunc f #[a.eval x]).run P w:=by simp [execOp,ho,resolve,Act.eval,Deferred.ofValue,invoke]
  rw [he,vx];exact hf n w
 ·simp [Eff.run] at hrun
theorem JD (mx:Bool): ∀(vs:List Value) (ds:List D) (k:IntKind) (m n:Int),vs.length=ds.length→(∀(j:Nat) (v:Value) (d:D),vs[j]? = some v→ds[j]? = some d→Rep fm G ok w v d) →
  Yl mx m ds k=some n→(vs.foldlM (if mx then Builtin.max2 else Builtin.min2) (.int k m)).run P w= .ok (.int k n) w
 | [],[],k,m,n,_,_,h=>by simp [Yl] at h;subst h;simp
 | v::vs,[],k,m,n,hl,_,h=>by simp at hl
 | [],d::ds,k,m,n,hl,_,h=>by simp at hl
 | v::vs,d::ds,k,m,n,hl,hr,h=>by
  have hv:=hr 0 v d rfl rfl
  cases d<;>simp only [Yl,reduceCtorEq] at h
  rename_i k' b;split at h
  ·rename_i hk;subst hk;rw [hv.inv_int];have:=JD mx vs ds k _ n (by simpa using hl) (fun j v d h1 h2=>hr (j+1) v d h1 h2) h
   simp only [List.foldlM_cons,Sem.run_bind]
   cases mx<;>simp only [Bool.false_eq_true,if_true,if_false] at this ⊢ <;> simpa [Builtin.max2,Builtin.min2] using this
  ·cases h
theorem Q8 (hts:TsR (Rep fm G (okB B G H w) w) a.tmps ts): ∀ {xs:List Operand} {qs:List PX},zab fm xs qs →
  (xs.map a.eval).length=(qs.map (PX.ev ts)).length∧ ∀(j:Nat) (v:Value) (q:D),(xs.map a.eval)[j]? = some v→(qs.map (PX.ev ts))[j]? = some q→Rep fm G (okB B G H w) w v q
 | [],[],.nil=>⟨rfl,by simp⟩
 | x::xs,px::qs,.cons hx h=>by
  obtain ⟨h1,h2⟩:=Q8 hts h
  refine ⟨by simpa using h1,fun j v q hv hq=> ?_⟩
  cases j with
  | zero=>
   simp at hv hq;subst hv;subst hq;exact zr hts hx
  | succ j=>exact h2 j v q (by simpa using hv) (by simpa using hq)
theorem zdM (hI:Inv fm B w G H)(hts:TsR (Rep fm G (okB B G H w) w) a.tmps ts){mx:Bool}{x:Operand}{xs:List Operand}{px:PX}{ps:List PX}{ats:Array TypeId}
  (ho:o.op= .call { callee:= .builtin (if mx then .max else .min),args:=(x::xs).toArray,argTypes:=ats })
  (hx:TrX fm x px) (hxs:zab fm xs ps) (hrun:(opE call (PX.ev ts) r (.minmax mx px ps)).run H=some out):yo P o a w (yp fm B w G H out):=by
 have hv:=zr hts hx
 simp only [opE] at hrun;split at hrun
 ·rename_i k m e1;obtain ⟨d,hd,rfl⟩:=zL hrun
  simp only [Option.map_eq_some_iff] at hd;obtain ⟨n,hn,rfl⟩:=hd
  rw [e1] at hv;have vx:=hv.inv_int
  obtain ⟨hl,hr⟩:=Q8 hts hxs
  have hfold:=JD (P:=P) (w:=w) mx _ _ k m n hl hr hn
  refine zm (v:= .int k n) (w':=w) ?_ (zj hI (.closed (.int _ _)))
  cases mx<;>simp only [Bool.false_eq_true,if_true,if_false] at ho hfold <;>
   simp [execOp,ho,resolve,invoke,builtin,Builtin.max_,Builtin.min_,vx,hfold]
 ·simp [Eff.run] at hrun
end
section
variable {P:Program} {fm:Nat→Nat} {B:qo} {w w':World} {G:Gh} {H:zf} {o:Oper} {a:Act} {ts:List D} {call:zy} {r:Nat} {out:Out}
theorem JK (w:World)(A:Addr)(n:Nat)(x:Addr):(w.freeze A n).cell? x=w.cell? x:=by
 unfold World.freeze;split
 ·rfl
 ·unfold World.cell?
  simp only [Array.getElem?_modify];by_cases h:A.block=x.block
  ·simp only [h,if_true]
   cases hh:w.heap[x.block]? with
   | none=>simp
   | some ob=>cases ob<;>simp
  ·simp only [h,if_false]
theorem Yj (w:World)(A:Addr)(n b:Nat)(h:A.block≠b):(w.freeze A n).heap[b]? = w.heap[b]? := by
 unfold World.freeze;split
 ·rfl
 ·simp [Array.getElem?_modify,h]
theorem U5 (w:World)(A:Addr)(n:Nat):(w.freeze A n).heap.size=w.heap.size∧(w.freeze A n).os=w.os∧(w.freeze A n).tape=w.tape∧(w.freeze A n).output=w.output:=by
 unfold World.freeze;split<;>simp
theorem zgb (hI:Inv fm B w G H){id sz:Nat}{es:List (List D)}(hid:hat H id= .row sz es true){b cap:Nat}(hg:G id= .row b cap sz)(A:Addr)(hA:A.block=b)(n:Nat) :
  Adv B w G H (w.freeze A n) G (H.set id .dead)∧Inv fm B (w.freeze A n) G (H.set id .dead)∧okB B G (H.set id .dead) (w.freeze A n) b:=by
 obtain ⟨p1,p2,p3,p4⟩:=U5 w A n
 have hh: ∀i,hat (H.set id .dead) i=if i=id then .dead else hat H i:=by
  intro i;rw [yM];by_cases e:i=id
  ·subst e;have hlt:i<H.length:=by
    unfold hat at hid;rcases Nat.lt_or_ge i H.length with h | h
    ·exact h
    ·rw [List.getD_eq_getElem?_getD,List.getElem?_eq_none h] at hid;cases hid
   simp [hlt]
  ·simp [e,Ne.symm e]
 have hrow: ∀i sz es lv,hat (H.set id .dead) i= .row sz es lv→i≠id∧hat H i= .row sz es lv:=by
  intro i sz es lv h;rw [hh] at h;split at h
  ·cases h
  ·exact ⟨by assumption,h⟩
 have hlv: ∀b',Lv G (H.set id .dead) b'→Lv G H b':=by
  rintro b' ⟨i,s,e,c,s',h1,h2⟩
  exact ⟨i,s,e,c,s',(hrow _ _ _ _ h1).2,h2⟩
 have hadv:Adv B w G H (w.freeze A n) G (H.set id .dead):=by
  refine ⟨j2 _,fun b' ⟨h1,h2,h3⟩=>⟨h1,fun h=>h2 (hlv b' h),by omega⟩,fun b' o v _ h=>by rw [JK];exact h⟩
 have hbl:Lv G H b:=⟨id,sz,es,cap,sz,hid,hg⟩
 refine ⟨hadv,?_,?_⟩
 ·refine ZU hI (by omega) p2 p3 p4 (fun b' hb' hl=> ?_) (fun i s e lv h=> ?_) (fun i h=> ?_) (fun i h=> ?_) (fun i j b1 c s c' s' r1 r2 h1 h2=> ?_)
  ·refine Yj w A n b' (fun e=>hl ?_)
   rw [←e,hA];exact hbl
  ·obtain ⟨hne,hr⟩:=hrow _ _ _ _ h
   obtain ⟨b1,c1,a1,a2,a3⟩:=hI.rows i s e lv hr
   refine ⟨b1,c1,a1,a2,a3.mono (fun v d hv=>hadv.rep hv) (Yj w A n b1 (fun e'=>hne ?_))⟩
   rw [hA] at e';subst e';exact hI.inj i id b c1 s cap sz ⟨_,_,_,hr⟩ ⟨_,_,_,hid⟩ a1 hg
  ·rw [hh] at h;split at h
   ·cases h
   ·exact hI.fresh i h
  ·rw [hh] at h;split at h
   ·rename_i e;rw [e,hg];intro h;cases h
   ·exact hI.dead i h
  ·obtain ⟨_,_,_,q1⟩:=r1
   obtain ⟨_,_,_,q2⟩:=r2
   exact hI.inj i j b1 c s c' s' ⟨_,_,_,(hrow _ _ _ _ q1).2⟩ ⟨_,_,_,(hrow _ _ _ _ q2).2⟩ h1 h2
 ·obtain ⟨b1,c1,a1,a2,a3⟩:=hI.rows id sz es true hid
  rw [hg] at a1;injection a1 with e1 e2 e3;subst e1;refine ⟨.inr a2,?_,by rw [p1];exact a3.lt⟩
  rintro ⟨i,s,e,c,s',h1,h2⟩
  obtain ⟨hne,hr⟩:=hrow _ _ _ _ h1
  obtain ⟨b2,c2,k1,_,_⟩:=hI.rows i s e true hr
  rw [h2] at k1;injection k1 with q1 q2 q3;subst q3;exact hne (hI.inj i id b c s' cap sz ⟨_,_,_,hr⟩ ⟨_,_,_,hid⟩ h2 hg)
theorem zg9 (hI:Inv fm B w G H)(hts:TsR (Rep fm G (okB B G H w) w) a.tmps ts){t e:TypeId}{x:Operand}{px:PX}(ho:o.op= .convert t t x)(ht:P.underlying t=some (.slice e))(he:P.underlying e=some (.int .u8))
  (hx:TrX fm x px) (hrun:(opE call (PX.ev ts) r (.mark px)).run H=some out):yo P o a w (yp fm B w G H out):=by
 have hv:=zr hts hx
 simp only [opE] at hrun;split at hrun
 ·rename_i id off len e1;obtain ⟨⟨s',es',l1⟩,l2⟩:=jv hrun
  obtain ⟨s,es,lv,g1,g2⟩:=yy l2
  rw [l1] at g1;injection g1 with q1 q2 q3;subst q1;subst q2;subst q3;split at g2
  ·rename_i hc;obtain ⟨c1,c2,c3,c4,c5⟩:=hc
   subst c1;simp only [Eff.run,Option.some.injEq] at g2;subst g2;rw [e1] at hv;obtain ⟨b,cap,k1,k2,k3⟩:=hI.rows id 1 es' true l1
   obtain ⟨r1,A,vx,r2⟩:=hv.inv_ref k1
   subst c2;have hA:A=⟨b,0,none⟩:=by
    rcases r2 with ⟨_,h | h⟩
    ·simpa using h
    ·exfalso;omega
   obtain ⟨⟨c,T,m1,m2,m3⟩,m4,m5,m6⟩:=k3
   obtain ⟨f1,f2,f3⟩:=zgb hI l1 k1 ⟨b,c.size,none⟩ rfl 1
   have hshape:w.shape? b=some (T,c.size):=by simp [World.shape?,m1]
   have hrun:(convert t t (a.eval x)).run P w= .ok (a.eval x) (w.freeze ⟨b,c.size,none⟩ 1):=by
    rw [vx,hA];simp [convert,run_underlying ht,run_underlying he,markStringish,run_shape,hshape,run_freeze]
   refine zm (v:=a.eval x) (w':=w.freeze ⟨b,c.size,none⟩ 1) ?_ ⟨G,f1,f2,.closed ?_⟩
   ·simp only [execOp,ho,Sem.run_bind,hrun,Result.andThen_ok,Sem.run_pure]
   ·rw [vx,hA];obtain ⟨l,hl⟩:=Option.isSome_iff_exists.1 c4
    obtain ⟨ns,n1,_,n3⟩:=ZA hl
    have hrc:RowOk (RepC fm (okB B G (H.set id .dead) (w.freeze ⟨b,c.size,none⟩ 1)) w) w 1 es' b cap:=by
     refine ⟨⟨c,T,m1,m2,fun i j e d he hd=> ?_⟩,m4,m5,m6⟩
     obtain ⟨u,a1,a2,a3⟩:=m3 i j e d he hd
     refine ⟨u,a1,a2,?_⟩
     have hi:i<ns.length:=by rw [n1];exact (List.getElem?_eq_some_iff.1 he).1
     have:=n3 i ns[i] (List.getElem?_eq_getElem hi)
     rw [he] at this;injection this with this;subst this
     cases j with
     | zero=>
      simp at hd;subst hd;rw [a3.inv_int];exact .int _ _
     | succ j=>simp at hd
    have hl:=zb1 (fm:=fm) hrc f3 (off:=0) (len:=es'.length) (by omega) (A:=⟨b,0,none⟩) (cap-0) (by omega) (.inl (by simp))
    have:=hl.mono fm (ok':=okB B G (H.set id .dead) (w.freeze ⟨b,c.size,none⟩ 1)) (w':=w.freeze ⟨b,c.size,none⟩ 1) (fun _ h=>h) (fun b o v _ h=>by rw [JK];exact h)
    rw [c3];have this':RepC fm (okB B G (H.set id .dead) (w.freeze ⟨b,c.size,none⟩ 1)) (w.freeze ⟨b,c.size,none⟩ 1) (.slice (some ⟨b,0,none⟩) es'.length cap) (.lst 1 es'):=by simpa using this
    exact this'
  ·simp [Eff.run] at g2
 ·simp [Eff.run] at hrun
end
section
variable (P:Program) (fm:Nat→Nat)
inductive TrAct:Op→POp→Prop where
 | op {mo:Op} {po:POp} (h:TrOp P fm mo po):TrAct mo po
 | call {f:Nat} {xs:List Operand} {qs:List (Nat×PX)} {ats:Array TypeId} (hx:TrA fm xs qs) (hf:V0 P (fm f)) :
   TrAct (.call { callee:= .value (.func (fm f)),args:=xs.toArray,argTypes:=ats }) (.call f qs)
 | callH {f:Nat} {xs:List Operand} {qs:List PX} {ats:Array TypeId} (hx:zab fm xs qs) (hf:V0 P (fm f)) :
   TrAct (.call { callee:= .value (.func (fm f)),args:=xs.toArray,argTypes:=ats }) (.callH f qs)
 | callV {fs:List Nat} {x:Operand} {px:PX} {xs:List Operand} {qs:List (Nat×PX)} {ats:Array TypeId} (hv:TrX fm x px) (hx:TrA fm xs qs) (hf: ∀f∈fs,V0 P (fm f)) :
   TrAct (.call { callee:= .value x,args:=xs.toArray,argTypes:=ats }) (.callV fs px qs)
inductive Reach (ops:Array Oper):Nat→Nat→Prop where
 | one {i:Nat} {o:Oper} {e:Edge} (ho:ops[i]? = some o) (he:e∈o.after.toList) (hb:Region.binds .any e=true):Reach ops e.on i
 | trans {k j i:Nat} (h1:Reach ops k j) (h2:Reach ops j i):Reach ops k i
structure zew (ops:Array Oper) (i:Nat) (o:Oper) (p:PO):Prop where
 dst:p.dst=o.dst
 op:TrAct P fm o.op p.op
 guard:(o.guard=none∧p.guard=none)∨(∃(j:Nat) (b:Bool) (t:Nat),o.guard=some (j,b)∧p.guard=some (t,b)∧(ops[j]?).bind (·.dst)=some t)
 after: ∀k∈p.after,Reach ops k i
 lt: ∀e∈o.after.toList,Region.binds .any e=true→e.on<i
end
section
variable {P:Program} {fm:Nat→Nat} {B:qo} {w:World} {G:Gh} {H:zf} {o:Oper} {a:Act} {ts:List D} {call:zy} {r:Nat} {out:Out}
theorem zfU (hI:Inv fm B w G H)(hts:TsR (Rep fm G (okB B G H w) w) a.tmps ts){po:POp}(ht:TrOp P fm o.op po)(hrun:(opE call (PX.ev ts) r po).run H=some out) :
  yo P o a w (yp fm B w G H out):=by
 generalize ho:o.op=mo at ht
 cases ht with
 | move h=>exact zia hI hts (.inl ho) h hrun
 | assign h=>exact zia hI hts (.inr ho) h hrun
 | pick hc ha hb=>exact zg8 hI hts ho hc ha hb hrun
 | alloc hi hz hzs=>exact zf0 hI ho hi hz hzs hrun
 | box h=>exact zju hI hts ho h hrun
 | build hb hzs hp=>exact zfZ hI hts ho hb hzs hp hrun
 | buildSlice hu hie hz hsz h0 hzs hzl hsm hp=>exact Vj hI hts ho hu hie hz hsz h0 hzs hzl hsm hp hrun
 | load hs h=>exact zha hI hts ho hs h hrun
 | store hs hx hy=>exact zfT hI hts ho hs hx hy hrun
 | nilCheck h=>exact zba hI hts ho h hrun
 | bin hx hy=>exact zjv hI hts ho hx hy hrun
 | eqB ht hx hy=>exact zjs hI hts ho ht hx hy hrun
 | eqNs ht hx=>exact zhc hI hts ho ht hx hrun
 | eqNp ht hx=>exact zhd hI hts ho ht hx hrun
 | un hx=>exact zlJ hI hts ho hx hrun
 | convInt hs hd hx=>exact zb0 hI hts ho hs hd hx hrun
 | convBS hs he hd hx=>exact zdP hI hts ho hs he hd hx hrun
 | convSB hs hd he hx=>exact zdO hI hts ho hs hd he hx hrun
 | makeSlice hu hi hz hsz hby h0 hzs hzl hx hy=>exact U0 hI hts ho hu hi hz hsz hby h0 hzs hzl hx hy hrun
 | slice hu hie hsz hx hlo hhi=>exact zfV hI hts ho hu hie hsz hx hlo hhi hrun
 | sliceS hu hx hlo hhi=>exact zdK hI hts ho hu hx hlo hhi hrun
 | fieldAddr hu hf hoff hn h0 hx=>exact U2 hI hts ho hu hf hoff hn h0 hx hrun
 | field hu hf hoff hn hx=>exact zfX hI hts ho hu hf hoff hn hx hrun
 | indexAddr hu hs hx hi=>exact U1 hI hts ho hu hs hx hi hrun
 | indexAddrA hu hs hx hi=>exact Vi hI hts ho hu hs hx hi hrun
 | index hu hs hx hi=>exact zfW hI hts ho hu hs hx hi hrun
 | indexS hu hx hi=>exact zdN hI hts ho hu hx hi hrun
 | extract hx=>exact zbZ hI hts ho hx hrun
 | lenS hu hx=>exact zhb hI hts ho hu hx hrun
 | lenR hu hx=>exact zjr hI hts ho hu hx hrun
 | append hu hv hi hz hsz hzl hby h0 hx hy=>exact zdQ hI hts ho hu hv hi hz hsz hzl hby h0 hx hy hrun
 | eqA ht hag hg hl hm hx hy=>exact zjt hI hts ho ht hag hg hl hm hx hy hrun
 | toFlt hs hd hx=>exact zfS hI hts ho hs hd hx hrun
 | mark ht he hx=>exact zg9 hI hts ho ht he hx hrun
 | bits hf hx=>exact zhf hI hts ho hf hx hrun
 | ofBits hf hx=>exact zdL hI hts ho hf hx hrun
 | minmax hx hxs=>exact zdM hI hts ho hx hxs hrun
structure YP (fm:Nat→Nat) (B:qo) (w:World) (G:Gh) (s:St) (a:Act):Prop where
 ts:TsR (Rep fm G (okB B G s.hp w) w) a.tmps s.ts
 inv:Inv fm B w G s.hp
 defers:a.defers= []
theorem zdv {ops:Array Oper}{i:Nat}{p:PO}{rep:Value→D→Prop}(hbool: ∀ {v:Value} {b:Bool},rep v (.bool b)→v= .bool b)(hskip: ∀ {v:Value},rep v .skip→v=undef)(hts:TsR rep a.tmps ts)
  (ht:zew P fm ops i o p) (hg:zN ts p.guard=true):Region.wanted o (yielded ops a.tmps)=zu ts p.guard:=by
 rcases ht.guard with ⟨h1,h2⟩ | ⟨j,b,t,h1,h2,h3⟩
 ·simp [Region.wanted,zu,h1,h2]
 ·rw [h2] at hg ⊢
  simp only [zN] at hg;simp only [Region.wanted,zu,h1];have get: ∀d,ts.getD t .undef=d→d ≠ .undef→ts[t]? = some d:=by
   intro d hb hne;rw [List.getD_eq_getElem?_getD] at hb
   cases hx:ts[t]? with
   | none=>rw [hx] at hb;exact absurd hb.symm hne
   | some d=>rw [hx] at hb;simp at hb;rw [hb]
  cases hb:ts.getD t .undef<;>rw [hb] at hg<;>simp at hg
  ·obtain ⟨v,h4,h5⟩:=hts.2 t _ (get _ hb (by simp))
   rw [hskip h5] at h4;simp [yielded,h3,h4,undef]
  ·obtain ⟨v,h4,h5⟩:=hts.2 t _ (get _ hb (by simp))
   rw [hbool h5] at h4;simp [yielded,h3,h4]
theorem Z2 {s:St}{w':World}{G':Gh}{H':zf}(h:YP fm B w G s a)(ha:Adv B w G s.hp w' G' H')(hI:Inv fm B w' G' H'){dst:Option Nat}{v:Value}{d:D}(hv:Rep fm G' (okB B G' H' w') w' v d) :
  YP fm B w' G' ⟨yh s.ts dst d,H'⟩ (a.put dst v):=by
 have h1:TsR (Rep fm G' (okB B G' H' w') w') a.tmps s.ts:=h.ts.mono (fun v d hv=>ha.rep hv)
 cases dst with
 | none=>exact ⟨h1,hI,h.defers⟩
 | some i=>exact ⟨h1.put i hv,hI,h.defers⟩
theorem zaq (hs:Js P fm call){ops:Array Oper}{i base:Nat}{p:PO}(ht:zew P fm ops i o p){s s':St}(hrel:YP fm B w G s a)(hstep:zD call base p s=some s')
  {K:Act→World→Prop} {Q:Exit→Act→World→Prop} (hK: ∀a' w' G',YP fm B w' G' s' a'→Adv B w G s.hp w' G' s'.hp→K a' w') :
  if Region.wanted o (yielded ops a.tmps) then o.wp P a w K Q else K (a.put o.dst undef) w:=by
 unfold zD at hstep;split at hstep
 ·rename_i hg;rw [zdv (fun h=>h.inv_bool) (fun h=>h.inv_skip) hrel.ts ht hg];split at hstep
  ·rename_i hw;rw [if_pos hw];have hact:=ht.op
   generalize hpo:p.op=po at hact hstep
   generalize hmo:o.op=mo at hact
   cases hact with
   | op h=>
    have hne: ∀f args,po ≠ .callH f args:=by
     intro f args e;subst e
     cases h
    split at hstep
    ·exact absurd rfl (hne _ _)
    ·simp only [Option.map_eq_some_iff] at hstep;obtain ⟨x,h1,rfl⟩:=hstep
     rw [←hmo] at h;refine zfU (o:=o) hrel.inv hrel.ts h h1 _ _ (fun v w' hp=> ?_)
     obtain ⟨G',g1,g2,g3⟩:=hp
     rw [←ht.dst];exact hK _ _ G' (Z2 hrel g1 g2 g3) g1
   | call hx hf=>
    simp only [Option.map_eq_some_iff] at hstep;obtain ⟨x,h1,rfl⟩:=hstep
    refine zhe (o:=o) hs hrel.inv hrel.ts hmo hf hx h1 _ _ (fun v w' hp=> ?_)
    obtain ⟨G',g1,g2,g3⟩:=hp
    rw [←ht.dst];exact hK _ _ G' (Z2 hrel g1 g2 g3) g1
   | callV hv hx hf=>
    simp only [Option.map_eq_some_iff] at hstep;obtain ⟨x,h1,rfl⟩:=hstep
    refine zfY (o:=o) hs hrel.inv hrel.ts hmo hv hf hx h1 _ _ (fun v w' hp=> ?_)
    obtain ⟨G',g1,g2,g3⟩:=hp
    rw [←ht.dst];exact hK _ _ G' (Z2 hrel g1 g2 g3) g1
   | callH hx hf=>
    simp only [Option.map_eq_some_iff] at hstep;obtain ⟨x,h1,rfl⟩:=hstep
    rename_i f xs qs ats;obtain ⟨q1,q2⟩:=Q8 hrel.ts hx
    have hc:=hs f (qs.map (PX.ev s.ts)) s.hp x.1 x.2 (by rw [h1]) B w G (xs.map a.eval) hrel.inv q1 q2
    refine X1 (o:=o) (K:=fun v w'=> ∃G',Adv B w G s.hp w' G' x.2∧Inv fm B w' G' x.2∧Rep fm G' (okB B G' x.2 w') w' v x.1) (zav (t:=0) hmo hf) (hc.mono fun e w' he=> ?_) _ _ (fun v w' hp=> ?_)
    ·obtain ⟨v,G',h1,h2,h3,h4⟩:=he
     exact ⟨v,h1,G',h2,h3,h4⟩
    ·obtain ⟨G',g1,g2,g3⟩:=hp
     rw [←ht.dst];exact hK _ _ G' (Z2 hrel g1 g2 g3) g1
  ·rename_i hw;rw [if_neg hw];simp only [Option.some.injEq] at hstep;subst hstep;rw [←ht.dst];exact hK _ _ G (Z2 hrel (Adv.refl _ _ _ _) hrel.inv (.closed .skip)) (Adv.refl _ _ _ _)
 ·cases hstep
inductive TrL (P:Program) (fm:Nat→Nat) (ops:Array Oper):Nat→List Oper→List PO→Prop where
 | nil {i:Nat}:TrL P fm ops i [] []
 | cons {i:Nat} {o:Oper} {p:PO} {l:List Oper} {ps:List PO} (h:zew P fm ops i o p) (hs:TrL P fm ops (i+1) l ps):TrL P fm ops i (o::l) (p::ps)
theorem zg1 (hs:Js P fm call){ops:Array Oper}{base:Nat}{Q:Exit→Act→World→Prop}(l:List Oper): ∀ {ps:List PO} {i:Nat},TrL P fm ops i l ps→ ∀ {w:World} {G:Gh} {s s':St} {a:Act},YP fm B w G s a →
  jW call base ps s=some s'→(∀a' w' G',YP fm B w' G' s' a'→Adv B w G s.hp w' G' s'.hp→Q .normal a' w')→wpList P ops Q l a w:=by
 induction l with
 | nil=>
  intro ps i ht w G s s' a hrel h hQ
  cases ht;simp only [jW,Option.some.injEq] at h;subst h;exact hQ a w G hrel (Adv.refl _ _ _ _)
 | cons o l ih=>
  intro ps i ht w G s s' a hrel h hQ
  cases ht with
  | cons ht htl=>
   simp only [jW,Option.bind_eq_some_iff] at h;obtain ⟨s1,h1,h2⟩:=h
   have:=zaq hs (K:=wpList P ops Q l) (Q:=Q) ht hrel h1 (fun a' w' G' hr ha=>ih htl hr h2 (fun a'' w'' G'' hr2 ha2=>hQ a'' w'' G'' hr2 (ha.trans ha2)))
   unfold wpList;split
   ·rename_i hw;rw [if_pos hw] at this;exact .inl this
   ·rename_i hw;rw [if_neg hw] at this;exact this
end
def POp.xs:POp→List PX
 | .mv x | .box _ x | .load _ _ x | .nilCheck x | .un _ x | .conv _ x | .fieldAddr _ _ x | .field _ _ _ x | .extract x _ | .len x | .lenS x | .eqNS _ x | .eqNP _ x | .mark x | .bits x | .ofBits x=> [x]
 | .pick c a b=> [c,a,b]
 | .alloc _=> []
 | .build _ ps=>ps.map fun p=>p.2.2
 | .buildSlice _ _ _ ps=>ps.map fun p=>p.2
 | .store _ a x | .bin _ a x | .eqB _ a x | .eqA _ _ a x | .makeSlice _ _ _ a x | .indexAddr _ a x | .indexAddrA _ _ a x | .index _ _ _ a x | .indexS a x | .append _ _ a x=> [a,x]
 | .slice _ x lo hi | .sliceS x lo hi=>x::(lo.toList++hi.toList)
 | .minmax _ x ys=>x::ys
 | .call _ args=>args.map fun p=>p.2
 | .callH _ args=>args
 | .callQ _ args=>args.map fun p=>p.2
 | .callV _ x args=>x::args.map fun p=>p.2
def PO.uses (p:PO):List Nat:=(p.op.xs.filterMap fun | .t i=>some i | _=>none)++(p.guard.map (·.1)).toList
section
variable {call:zy} {base:Nat}
theorem zdU {ρ ρ':PX→D}{r:Nat}{op:POp}(h: ∀x∈op.xs,ρ x=ρ' x):opE call ρ r op=opE call ρ' r op:=by
 cases op<;>simp only [POp.xs,List.mem_cons,List.mem_nil_iff,or_false,forall_eq_or_imp,forall_eq,List.mem_append,List.mem_map,forall_exists_index,and_imp,forall_apply_eq_imp_iff₂] at h<;>simp only [opE]
 case build zs ps=>
  have e1:(ps.map fun p=>(p.1,p.2.1,ρ p.2.2))=ps.map fun p=>(p.1,p.2.1,ρ' p.2.2):=List.map_congr_left fun p hp=>by rw [h p hp]
  have e2:(ps.all fun p=>(cellsOf (ρ p.2.2)).all one)=ps.all fun p=>(cellsOf (ρ' p.2.2)).all one:=by
   rw [Bool.eq_iff_iff,List.all_eq_true,List.all_eq_true];exact ⟨fun hh p hp=>by rw [←h p hp];exact hh p hp,fun hh p hp=>by rw [h p hp];exact hh p hp⟩
  rw [e1,e2]
 case buildSlice sz n zs ps=>
  have e1:(ps.map fun p=>(p.1,ρ p.2))=ps.map fun p=>(p.1,ρ' p.2):=List.map_congr_left fun p hp=>by rw [h p hp]
  have e2:(ps.all fun p=>(cellsOf (ρ p.2)).all one)=ps.all fun p=>(cellsOf (ρ' p.2)).all one:=by
   rw [Bool.eq_iff_iff,List.all_eq_true,List.all_eq_true];exact ⟨fun hh p hp=>by rw [←h p hp];exact hh p hp,fun hh p hp=>by rw [h p hp];exact hh p hp⟩
  rw [e1,e2]
 case slice sz x lo hi=>
  have e1:lo.map ρ=lo.map ρ':=by cases lo<;>simp;exact h.2 _ (.inl (by simp))
  have e2:hi.map ρ=hi.map ρ':=by cases hi<;>simp;exact h.2 _ (.inr (by simp))
  rw [h.1,e1,e2]
 case sliceS x lo hi=>
  have e1:lo.map ρ=lo.map ρ':=by cases lo<;>simp;exact h.2 _ (.inl (by simp))
  have e2:hi.map ρ=hi.map ρ':=by cases hi<;>simp;exact h.2 _ (.inr (by simp))
  rw [h.1,e1,e2]
 case minmax mx x ys=>
  have e1:ys.map ρ=ys.map ρ':=List.map_congr_left fun p hp=>h.2 p hp
  rw [h.1,e1]
 case call f args=>
  have e1:(args.map fun p=>(p.1,ρ p.2))=args.map fun p=>(p.1,ρ' p.2):=List.map_congr_left fun p hp=>by rw [h p hp]
  rw [e1]
 case callQ f args=>
  have e1:(args.map fun p=>(p.1,ρ p.2))=args.map fun p=>(p.1,ρ' p.2):=List.map_congr_left fun p hp=>by rw [h p hp]
  rw [e1]
 case callV fs x args=>
  have e1:(args.map fun p=>(p.1,ρ p.2))=args.map fun p=>(p.1,ρ' p.2):=List.map_congr_left fun p hp=>by rw [h.2 p hp]
  rw [e1,h.1]
 all_goals first | rfl | (simp only [h])
theorem zdD {α:Type}{e:Eff α}{x:α}{H1 H2:zf}(h:e.run H1=some x)(hr: ∀id∈e.rd H1,freeze (hat H1 id)=freeze (hat H2 id))
  (hl: ∀id∈e.lv H1,hat H1 id=hat H2 id∧(id<H1.length↔id<H2.length)):e.run H2=some x:=by
 induction e with
 | pure a=>exact h
 | fail=>simp [Eff.run] at h
 | get id k ih=>
  obtain ⟨sz,es,lv,h1,h2⟩:=yy h
  have e1:(Eff.get id k).rd H1=id::(k sz es).rd H1:=by simp [Eff.rd,h1]
  have e2:(Eff.get id k).lv H1=(k sz es).lv H1:=by simp [Eff.lv,h1]
  rw [e1] at hr;rw [e2] at hl;have:=hr id (by simp)
  rw [h1] at this
  cases hx:hat H2 id with
  | fresh=>rw [hx] at this;cases this
  | dead=>rw [hx] at this;cases this
  | row a b c=>
   rw [hx] at this;simp only [freeze,Blk.row.injEq] at this;obtain ⟨rfl,rfl,_⟩:=this
   simp only [Eff.run,hx];exact ih _ _ h2 (fun i hi=>hr i (by simp [hi])) hl
 | live id k ih=>
  obtain ⟨⟨sz,es,h1⟩,h2⟩:=jv h
  have:=(hl id (by simp [Eff.lv])).1
  rw [h1] at this;simp only [Eff.run,←this];exact ih h2 hr (fun i hi=>hl i (by simp [Eff.lv,hi]))
 | new id k ih=>
  obtain ⟨h0,h1,h2⟩:=jd h
  have:=hl id (by simp [Eff.lv])
  rw [h1] at this;simp only [Eff.run,←this.1,if_pos (this.2.1 h0)];exact ih h2 hr (fun i hi=>hl i (by simp [Eff.lv,hi]))
def eff (call:zy)(base:Nat)(p:PO)(s:St)(t:St):St:=
 if zu s.ts p.guard then
  match p.op with
  | .callH f args=>match call f (args.map (PX.ev s.ts)) s.hp with
   | some x=>⟨yh t.ts p.dst x.1,x.2⟩
   | none=>t
  | op=>match (opE call (PX.ev s.ts) (base+p.res) op).run s.hp with
   | some x=>⟨yh t.ts p.dst x.d,x.on t.hp⟩
   | none=>t
 else ⟨yh t.ts p.dst .skip,t.hp⟩
theorem yx (x:Out)(H:zf):(x.on H).length=H.length:=by
 unfold Out.on;have: ∀(is:List Nat) (H:zf),(qD H is).length=H.length:=by
  intro is;induction is with
  | nil=>intro H;rfl
  | cons i is ih=>intro H;simp [qD,ih]
 rw [this,JJ]
theorem QD: ∀(ws:List (Nat×Blk)) (H H':zf) (id:Nat),hat H id=hat H' id→(id<H.length↔id<H'.length)→hat (ye H ws) id=hat (ye H' ws) id
 | [],H,H',id,h,_=>h
 | (i,b)::ws,H,H',id,h,hl=>by
  rw [ye,ye];refine QD ws _ _ id ?_ (by simpa using hl)
  rw [yM,yM];by_cases e:i=id
  ·subst e;simp only [true_and,hl,h]
  ·simp [e,h]
theorem VL: ∀(ws:List (Nat×Blk)) (H H':zf) (id:Nat),freeze (hat H id)=freeze (hat H' id)→(id<H.length↔id<H'.length)→freeze (hat (ye H ws) id)=freeze (hat (ye H' ws) id)
 | [],H,H',id,h,_=>h
 | (i,b)::ws,H,H',id,h,hl=>by
  rw [ye,ye];refine VL ws _ _ id ?_ (by simpa using hl)
  rw [yM,yM];by_cases e:i=id
  ·subst e;by_cases hh:i<H.length
   ·simp [hh,hl.1 hh]
   ·have: ¬i<H'.length:=fun h=>hh (hl.2 h)
    simp [hh,this,h]
  ·simp [e,h]
theorem zdG {ts:List D}{a b:Option Nat}{x y:D}(h: ∀t,a=some t→b≠some t):yh (yh ts a x) b y=yh (yh ts b y) a x:=by
 cases a with
 | none=>rfl
 | some i=>
  cases b with
  | none=>rfl
  | some j=>
   have:i≠j:=fun e=>h i rfl (by rw [e])
   exact List.set_comm _ _ this
theorem JG {H:zf}{i:Nat}(h:i<H.length):H[i]? = some (hat H i):=by
 unfold hat;rw [List.getD_eq_getElem?_getD,List.getElem?_eq_getElem h];rfl
theorem zgc {H H':zf}(hl:H.length=H'.length)(h: ∀i,hat H i=hat H' i):H=H':=by
 apply List.ext_getElem?
 intro i;by_cases hi:i<H.length
 ·rw [JG hi,JG (by omega),h]
 ·rw [List.getElem?_eq_none (by omega),List.getElem?_eq_none (by omega)]
theorem zgf {p:PO}{s s':St}(h:zD call base p s=some s') :
  ∃d,(∀t,(eff call base p s t).ts=yh t.ts p.dst d)∧eff call base p s s=s' ∧
   (((zq call base p s).all=false∧ ∃x:Out,x.ws.map (·.1)=(zq call base p s).wr∧x.fz=(zq call base p s).fz∧ ∀t,(eff call base p s t).hp=x.on t.hp) ∨
    ((zq call base p s).all=true∧ ∀t,(eff call base p s t).hp=s'.hp)):=by
 unfold zD at h;split at h
 ·split at h
  ·rename_i hg hw;by_cases hc: ∃f args,p.op= .callH f args
   ·obtain ⟨f,args,hop⟩:=hc
    rw [hop] at h;simp only [Option.map_eq_some_iff] at h;obtain ⟨x,h1,rfl⟩:=h
    refine ⟨x.1,fun t=> ?_,?_,.inr ⟨?_,fun t=> ?_⟩⟩<;>simp [eff,zq,hw,hop,h1]
   ·have h':((opE call (PX.ev s.ts) (base+p.res) p.op).run s.hp).map (fun x=>(⟨yh s.ts p.dst x.d,x.on s.hp⟩:St))=some s':=by
     split at h
     ·exact absurd ⟨_,_,by assumption⟩ hc
     ·exact h
    simp only [Option.map_eq_some_iff] at h';obtain ⟨x,h1,rfl⟩:=h'
    have e1: ∀t,eff call base p s t=⟨yh t.ts p.dst x.d,x.on t.hp⟩:=by
     intro t;unfold eff;rw [if_pos hw];split
     ·exact absurd ⟨_,_,by assumption⟩ hc
     ·simp only [h1]
    have e2:zq call base p s=⟨(opE call (PX.ev s.ts) (base+p.res) p.op).rd s.hp,(opE call (PX.ev s.ts) (base+p.res) p.op).lv s.hp,x.ws.map (·.1),x.fz,false⟩:=by
     unfold zq;rw [if_pos hw];split
     ·exact absurd ⟨_,_,by assumption⟩ hc
     ·simp only [h1]
    exact ⟨x.d,fun t=>by rw [e1],e1 s,.inl ⟨by rw [e2],x,by rw [e2],by rw [e2],fun t=>by rw [e1]⟩⟩
  ·rename_i hg hw;simp only [Option.some.injEq] at h;subst h;refine ⟨.skip,fun t=>by simp [eff,hw],by simp [eff,hw],.inl ⟨by simp [zq,hw],⟨.skip,[],[]⟩,by simp [zq,hw],by simp [zq,hw],fun t=>by simp [eff,hw,Out.on,ye,qD]⟩⟩
 ·cases h
theorem zat: ∀ {ps:List PO} {i:Nat} {seen:List (Nat×Fp)} {s s':St},YA call base ps i seen s=some s' →
  ∃st:Nat→St,st 0=s∧st ps.length=s'∧(∀(k:Nat) (p:PO),ps[k]? = some p→zD call base p (st k)=some (st (k+1))) ∧
   ∀(k:Nat) (p:PO),ps[k]? = some p→(∀q∈seen,q.1∈p.after∨clash q.2 (zq call base p (st k))=false) ∧
    ∀(j:Nat) (q:PO),j<k→ps[j]? = some q→i+j∈p.after∨clash (zq call base q (st j)) (zq call base p (st k))=false
 | [],i,seen,s,s',h=>by
  simp only [YA,Option.some.injEq] at h;subst h;exact ⟨fun _=>s,rfl,rfl,by simp,by simp⟩
 | p::ps,i,seen,s,s',h=>by
  simp only [YA] at h;split at h
  ·rename_i hc;simp only [Option.bind_eq_some_iff] at h;obtain ⟨s1,h1,h2⟩:=h
   obtain ⟨st,g1,g2,g3,g4⟩:=zat h2
   have hc': ∀q∈seen,q.1∈p.after∨clash q.2 (zq call base p s)=false:=by
    intro q hq;have:=List.all_eq_true.1 hc q hq
    simpa [List.contains_eq_mem] using this
   refine ⟨fun k=>match k with | 0=>s | k+1=>st k,rfl,by simpa using g2,fun k q hk=> ?_,fun k q hk=> ?_⟩
   ·cases k with
    | zero=>simp at hk;subst hk;show zD call base p s=some (st 0);rw [g1];exact h1
    | succ k=>exact g3 k q (by simpa using hk)
   ·cases k with
    | zero=>simp at hk;subst hk;exact ⟨hc',fun j q hj=>by omega⟩
    | succ k=>
     obtain ⟨k1,k2⟩:=g4 k q (by simpa using hk)
     refine ⟨fun x hx=>k1 x (by simp [hx]),fun j r hj hr=> ?_⟩
     cases j with
     | zero=>
      simp at hr;subst hr;exact k1 (i,zq call base p s) (by simp)
     | succ j=>
      rcases k2 j r (by omega) (by simpa using hr) with h | h
      ·left;rw [show i+(j+1)=i+1+j by omega];exact h
      ·exact .inr h
  ·cases h
theorem yY {f g:Fp}(h:clash f g=false) :
  (f.all=true→g.idle=true)∧(g.all=true→f.idle=true)∧(∀x∈f.wr,x ∉ g.rd∧x ∉ g.lv∧x ∉ g.wr∧x ∉ g.fz)∧(∀x∈g.wr,x ∉ f.rd∧x ∉ f.lv∧x ∉ f.fz)∧(∀x∈f.fz,x ∉ g.lv)∧(∀x∈g.fz,x ∉ f.lv):=by
 have hm: ∀ {xs ys:List Nat},meets xs ys=false→ ∀x∈xs,x ∉ ys:=by
  intro xs ys h x hx hy;simp only [meets,List.any_eq_false] at h;have:=h x hx
  simp [List.contains_eq_mem,hy] at this
 simp only [clash,Bool.or_eq_false_iff,Bool.and_eq_false_iff,Bool.not_eq_false'] at h;obtain ⟨⟨⟨⟨⟨⟨⟨⟨⟨⟨h1,h2⟩,h3⟩,h4⟩,h5⟩,h6⟩,h7⟩,h8⟩,h9⟩,h10⟩,h11⟩:=h
 refine ⟨fun e=> ?_,fun e=> ?_,fun x hx=>⟨hm h3 x hx,hm h4 x hx,hm h5 x hx,hm h6 x hx⟩,fun x hx=>⟨hm h7 x hx,hm h8 x hx,hm h9 x hx⟩,hm h10,hm h11⟩
 ·rcases h1 with h | h
  ·rw [e] at h;cases h
  ·exact h
 ·rcases h2 with h | h
  ·rw [e] at h;cases h
  ·exact h
theorem jA {f:Fp}(h:f.idle=true):f.all=false∧f.rd= []∧f.lv= []∧f.wr= []∧f.fz= []:=by
 simp only [Fp.idle,Bool.and_eq_true,Bool.not_eq_true',List.isEmpty_iff] at h;exact ⟨h.1.1.1.1,h.1.1.1.2,h.1.1.2,h.1.2,h.2⟩
variable {ps:List PO} {st:Nat→St}
def pAt (ps:List PO)(k:Nat):PO:=ps.getD k default
def E (call:zy)(base:Nat)(ps:List PO)(st:Nat→St)(k:Nat):St→St:=eff call base (pAt ps k) (st k)
def y9 (call:zy)(base:Nat)(ps:List PO)(st:Nat→St)(k:Nat):Fp:=zq call base (pAt ps k) (st k)
def sig (call:zy)(base:Nat)(ps:List PO)(st:Nat→St)(S:Nat→Bool):Nat→St
 | 0=>st 0
 | k+1=>if S k then E call base ps st k (sig call base ps st S k) else sig call base ps st S k
structure Run (call:zy) (base:Nat) (ps:List PO) (st:Nat→St):Prop where
 step: ∀k,k<ps.length→zD call base (pAt ps k) (st k)=some (st (k+1))
 clash: ∀j k,j<k→k<ps.length→j∈(pAt ps k).after∨clash (y9 call base ps st j) (y9 call base ps st k)=false
 tmps: ∀j k,j<k→k<ps.length→((∃t,(pAt ps j).dst=some t∧(t∈(pAt ps k).uses∨(pAt ps k).dst=some t))∨(∃t,(pAt ps k).dst=some t∧t∈(pAt ps j).uses))→j∈(pAt ps k).after
section
variable (hR:Run call base ps st)
include hR
theorem jV {k:Nat}(hk:k<ps.length): ∃d,(∀t,(E call base ps st k t).ts=yh t.ts (pAt ps k).dst d)∧E call base ps st k (st k)=st (k+1) ∧
   (((y9 call base ps st k).all=false∧ ∃x:Out,x.ws.map (·.1)=(y9 call base ps st k).wr∧x.fz=(y9 call base ps st k).fz∧ ∀t,(E call base ps st k t).hp=x.on t.hp) ∨
    ((y9 call base ps st k).all=true∧ ∀t,(E call base ps st k t).hp=(st (k+1)).hp)):=zgf (hR.step k hk)
theorem Y8: ∀k,k≤ps.length→sig call base ps st (fun _=>true) k=st k
 | 0,_=>rfl
 | k+1,h=>by
  simp only [sig,if_true];rw [Y8 k (by omega)];exact (jV hR (by omega)).choose_spec.2.1
theorem UB {k:Nat}(hk:k<ps.length)(h:(y9 call base ps st k).idle=true)(t:St):(E call base ps st k t).hp=t.hp:=by
 obtain ⟨i1,_,_,i4,i5⟩:=jA h
 obtain ⟨d,_,_,h3⟩:=jV hR hk
 rcases h3 with ⟨_,x,x1,x2,x3⟩ | ⟨h,_⟩
 ·rw [x3];rw [i4] at x1;rw [i5] at x2;have:x.ws= []:=by simpa using x1
  simp [Out.on,this,x2,ye,qD]
 ·rw [i1] at h;cases h
theorem V4 (S:Nat→Bool): ∀k,k≤ps.length→(sig call base ps st S k).ts.length=(st 0).ts.length
 | 0,_=>rfl
 | k+1,h=>by
  simp only [sig];split
  ·obtain ⟨d,h1,_⟩:=jV hR (show k<ps.length by omega)
   rw [h1];unfold yh;split<;>simp [V4 S k (by omega)]
  ·exact V4 S k (by omega)
theorem zao {S:Nat→Bool}{i t:Nat}(hi:i≤ps.length)(h: ∀j,j<ps.length→(pAt ps j).dst=some t→(S j=true↔j<i)) :
  ∀k,k≤ps.length→(sig call base ps st S k).ts[t]? = (sig call base ps st (fun _=>true) (min k i)).ts[t]?
 | 0,_=>by simp [sig]
 | k+1,hk=>by
  have ih:=zao hi h k (by omega)
  obtain ⟨d,h1,_⟩:=jV hR (show k<ps.length by omega)
  have put_ne: ∀(ts:List D),(pAt ps k).dst≠some t→(yh ts (pAt ps k).dst d)[t]? = ts[t]? := by
   intro ts hne;unfold yh;split
   ·rename_i q e;rw [List.getElem?_set_ne];intro hh;subst hh;exact hne e
   ·rfl
  have put_eq: ∀(ts ts':List D),ts.length=ts'.length→ts[t]? = ts'[t]? → (yh ts (pAt ps k).dst d)[t]? = (yh ts' (pAt ps k).dst d)[t]? := by
   intro ts ts' hl he;unfold yh;split
   ·rw [List.getElem?_set,List.getElem?_set,hl,he]
   ·exact he
  by_cases hki:k<i
  ·rw [show min (k+1) i=k+1 by omega];rw [show min k i=k by omega] at ih;simp only [sig,if_true];split
   ·rw [h1,h1];exact put_eq _ _ (by rw [V4 hR _ k (by omega),V4 hR _ k (by omega)]) ih
   ·rename_i hs;rw [h1,put_ne _ (fun e=>hs ((h k (by omega) e).2 hki))];exact ih
  ·rw [show min (k+1) i=i by omega];rw [show min k i=i by omega] at ih;simp only [sig];split
   ·rename_i hs;rw [h1,put_ne _ (fun e=>hki ((h k (by omega) e).1 hs))];exact ih
   ·exact ih
theorem zaO {S:Nat→Bool}{i id:Nat}(hi:i<ps.length)(hS:S i=false)
  (h: ∀j,j<ps.length→j≠i→((y9 call base ps st j).all=true∨id∈(y9 call base ps st j).wr∨id∈(y9 call base ps st j).fz)→(S j=true↔j<i)) :
  ∀k,k≤ps.length→hat (sig call base ps st S k).hp id=hat (sig call base ps st (fun _=>true) (min k i)).hp id ∧
   (sig call base ps st S k).hp.length=(sig call base ps st (fun _=>true) (min k i)).hp.length
 | 0,_=>by simp [sig]
 | k+1,hk=>by
  obtain ⟨ih1,ih2⟩:=zaO hi hS h k (by omega)
  obtain ⟨d,_,_,h3⟩:=jV hR (show k<ps.length by omega)
  have still: ¬((y9 call base ps st k).all=true∨id∈(y9 call base ps st k).wr∨id∈(y9 call base ps st k).fz)→ ∀t,hat (E call base ps st k t).hp id=hat t.hp id∧(E call base ps st k t).hp.length=t.hp.length:=by
   intro hn t;rcases h3 with ⟨_,x,x1,x2,x3⟩ | ⟨ha,_⟩
   ·rw [x3];refine ⟨?_,yx _ _⟩
    unfold Out.on;rw [yG,if_neg (fun hh=>hn (.inr (.inr (by rw [←x2];exact hh)))),yt]
    intro y hy e;exact hn (.inr (.inl (by rw [←x1,←e];exact List.mem_map_of_mem hy)))
   ·exact absurd (.inl ha) hn
  by_cases hki:k<i
  ·rw [show min (k+1) i=k+1 by omega];rw [show min k i=k by omega] at ih1 ih2;simp only [sig,if_true];split
   ·rcases h3 with ⟨_,x,x1,x2,x3⟩ | ⟨ha,hc⟩
    ·rw [x3,x3];refine ⟨?_,by rw [yx,yx];exact ih2⟩
     unfold Out.on;rw [yG,yG,QD x.ws _ _ id ih1 (by rw [ih2])]
    ·rw [hc,hc];exact ⟨rfl,rfl⟩
   ·rename_i hs;have:=still (fun hh=>hs ((h k (by omega) (by omega) hh).2 hki)) (sig call base ps st (fun _=>true) k)
    rw [this.1,this.2];exact ⟨ih1,ih2⟩
  ·rw [show min (k+1) i=i by omega];rw [show min k i=i by omega] at ih1 ih2;simp only [sig];split
   ·rename_i hs;have hne:k≠i:=by rintro rfl;rw [hS] at hs;cases hs
    have:=still (fun hh=>hki ((h k (by omega) hne hh).1 hs)) (sig call base ps st S k)
    rw [this.1,this.2];exact ⟨ih1,ih2⟩
   ·exact ⟨ih1,ih2⟩
theorem VJ {S:Nat→Bool}{i id:Nat}(hi:i<ps.length)(hS:S i=false)
  (h: ∀j,j<ps.length→j≠i→((y9 call base ps st j).all=true∨id∈(y9 call base ps st j).wr)→(S j=true↔j<i)) :
  ∀k,k≤ps.length→freeze (hat (sig call base ps st S k).hp id)=freeze (hat (sig call base ps st (fun _=>true) (min k i)).hp id) ∧
   (sig call base ps st S k).hp.length=(sig call base ps st (fun _=>true) (min k i)).hp.length
 | 0,_=>by simp [sig]
 | k+1,hk=>by
  obtain ⟨ih1,ih2⟩:=VJ hi hS h k (by omega)
  obtain ⟨d,_,_,h3⟩:=jV hR (show k<ps.length by omega)
  have fzF: ∀(is:List Nat) (H:zf),freeze (hat (qD H is) id)=freeze (hat H id):=by
   intro is H;rw [yG];split
   ·rw [YL]
   ·rfl
  have still: ¬((y9 call base ps st k).all=true∨id∈(y9 call base ps st k).wr)→ ∀t,freeze (hat (E call base ps st k t).hp id)=freeze (hat t.hp id)∧(E call base ps st k t).hp.length=t.hp.length:=by
   intro hn t;rcases h3 with ⟨_,x,x1,x2,x3⟩ | ⟨ha,_⟩
   ·rw [x3];refine ⟨?_,yx _ _⟩
    unfold Out.on;rw [fzF,yt];intro y hy e;exact hn (.inr (by rw [←x1,←e];exact List.mem_map_of_mem hy))
   ·exact absurd (.inl ha) hn
  by_cases hki:k<i
  ·rw [show min (k+1) i=k+1 by omega];rw [show min k i=k by omega] at ih1 ih2;simp only [sig,if_true];split
   ·rcases h3 with ⟨_,x,x1,x2,x3⟩ | ⟨ha,hc⟩
    ·rw [x3,x3];refine ⟨?_,by rw [yx,yx];exact ih2⟩
     unfold Out.on;rw [fzF,fzF,VL x.ws _ _ id ih1 (by rw [ih2])]
    ·rw [hc,hc];exact ⟨rfl,rfl⟩
   ·rename_i hs;have:=still (fun hh=>hs ((h k (by omega) (by omega) hh).2 hki)) (sig call base ps st (fun _=>true) k)
    rw [this.1,this.2];exact ⟨ih1,ih2⟩
  ·rw [show min (k+1) i=i by omega];rw [show min k i=i by omega] at ih1 ih2;simp only [sig];split
   ·rename_i hs;have hne:k≠i:=by rintro rfl;rw [hS] at hs;cases hs
    have:=still (fun hh=>hki ((h k (by omega) hne hh).1 hs)) (sig call base ps st S k)
    rw [this.1,this.2];exact ⟨ih1,ih2⟩
   ·exact ⟨ih1,ih2⟩
theorem VK {S:Nat→Bool}{i:Nat}(hi:i<ps.length)(hS:S i=false)
  (h: ∀j,j<ps.length→j≠i→(y9 call base ps st j).idle=false→(S j=true↔j<i)) :
  ∀k,k≤ps.length→(sig call base ps st S k).hp=(sig call base ps st (fun _=>true) (min k i)).hp
 | 0,_=>by simp [sig]
 | k+1,hk=>by
  have ih:=VK hi hS h k (by omega)
  obtain ⟨d,_,_,h3⟩:=jV hR (show k<ps.length by omega)
  by_cases hki:k<i
  ·rw [show min (k+1) i=k+1 by omega];rw [show min k i=k by omega] at ih;simp only [sig,if_true];split
   ·rcases h3 with ⟨_,x,x1,x2,x3⟩ | ⟨ha,hc⟩
    ·rw [x3,x3,ih]
    ·rw [hc,hc]
   ·rename_i hs
    cases hid:(y9 call base ps st k).idle with
    | true=>rw [UB hR (by omega) hid];exact ih
    | false=>exact absurd ((h k (by omega) (by omega) hid).2 hki) hs
  ·rw [show min (k+1) i=i by omega];rw [show min k i=i by omega] at ih;simp only [sig];split
   ·rename_i hs;have hne:k≠i:=by rintro rfl;rw [hS] at hs;cases hs
    cases hid:(y9 call base ps st k).idle with
    | true=>rw [UB hR (by omega) hid];exact ih
    | false=>exact absurd ((h k (by omega) hne hid).1 hs) hki
   ·exact ih
def zjh (ps:List PO)(S:Nat→Bool):Prop:= ∀j,j<ps.length→S j=true→ ∀k∈(pAt ps j).after,S k=true
theorem zfJ {S:Nat→Bool}{i:Nat}(hi:i<ps.length)(hS:S i=false)(hd:zjh ps S)(hr: ∀k∈(pAt ps i).after,S k=true) :
  zD call base (pAt ps i) (sig call base ps st S ps.length)=some (E call base ps st i (sig call base ps st S ps.length)):=by
 have hmin:min ps.length i=i:=by omega
 have order: ∀j,j<ps.length→j≠i→((j<i→j∈(pAt ps i).after)∧(i<j→i∈(pAt ps j).after))→(S j=true↔j<i):=by
  intro j hj hne ⟨h1,h2⟩
  constructor
  ·intro hs;by_cases hlt:j<i
   ·exact hlt
   ·have:=hd j hj hs i (h2 (by omega))
    rw [hS] at this;cases this
  ·intro hlt;exact hr j (h1 hlt)
 have hts: ∀t∈(pAt ps i).uses,(sig call base ps st S ps.length).ts.getD t .undef=(st i).ts.getD t .undef:=by
  intro t ht;have:=zao hR (S:=S) (i:=i) (t:=t) (by omega) (fun j hj hdst=>by
   by_cases hne:j=i
   ·subst hne;rw [hS];simp
   ·refine order j hj hne ⟨fun hlt=>hR.tmps j i hlt hi (.inl ⟨t,hdst,.inl ht⟩),fun hlt=>hR.tmps i j hlt hj (.inr ⟨t,hdst,ht⟩)⟩) ps.length (Nat.le_refl _)
  rw [hmin,Y8 hR i (by omega)] at this;rw [List.getD_eq_getElem?_getD,List.getD_eq_getElem?_getD,this]
 have hev: ∀x∈(pAt ps i).op.xs,PX.ev (sig call base ps st S ps.length).ts x=PX.ev (st i).ts x:=by
  intro x hx
  cases x with
  | t j=>exact hts j (by unfold PO.uses;exact List.mem_append.2 (.inl (List.mem_filterMap.2 ⟨.t j,hx,rfl⟩)))
  | c d=>rfl
 have hgd:zN (sig call base ps st S ps.length).ts (pAt ps i).guard=zN (st i).ts (pAt ps i).guard∧zu (sig call base ps st S ps.length).ts (pAt ps i).guard=zu (st i).ts (pAt ps i).guard:=by
  cases hg:(pAt ps i).guard with
  | none=>exact ⟨rfl,rfl⟩
  | some q=>
   have:=hts q.1 (by unfold PO.uses;rw [hg];simp)
   constructor<;>simp only [zN,zu,this]
 have hclash: ∀j,j<ps.length→j≠i→clash (y9 call base ps st j) (y9 call base ps st i)=false∨clash (y9 call base ps st i) (y9 call base ps st j)=false∨(S j=true↔j<i):=by
  intro j hj hne;rcases Nat.lt_or_gt_of_ne hne with hlt | hgt
  ·rcases hR.clash j i hlt hi with h | h
   ·exact .inr (.inr (order j hj hne ⟨fun _=>h,fun hh=>by omega⟩))
   ·exact .inl h
  ·rcases hR.clash i j hgt hj with h | h
   ·exact .inr (.inr (order j hj hne ⟨fun hh=>by omega,fun _=>h⟩))
   ·exact .inr (.inl h)
 have hstep:=hR.step i hi
 have hfp:y9 call base ps st i=zq call base (pAt ps i) (st i):=rfl
 have hE: ∀t,E call base ps st i t=eff call base (pAt ps i) (st i) t:=fun t=>rfl
 rw [hE];generalize hp:pAt ps i=p at hstep hev hgd hfp
 unfold zD at hstep ⊢
 rw [hgd.1,hgd.2];split at hstep
 ·rename_i hg;rw [if_pos hg];split at hstep
  ·rename_i hw;rw [if_pos hw];by_cases hc: ∃f args,p.op= .callH f args
   ·obtain ⟨f,args,hop⟩:=hc
    rw [hop] at hstep hev ⊢
    simp only [Option.map_eq_some_iff] at hstep;obtain ⟨x,h1,h2⟩:=hstep
    have hall:(y9 call base ps st i).all=true:=by rw [hfp];simp [zq,hw,hop]
    have hheap:=VK hR (S:=S) hi hS (fun j hj hne hid=>by
     rcases hclash j hj hne with h | h | h
     ·have:=(yY h).2.1 hall;rw [hid] at this;cases this
     ·have:=(yY h).1 hall;rw [hid] at this;cases this
     ·exact h) ps.length (Nat.le_refl _)
    rw [hmin,Y8 hR i (by omega)] at hheap;have hargs:args.map (PX.ev (sig call base ps st S ps.length).ts)=args.map (PX.ev (st i).ts):=List.map_congr_left fun y hy=>hev y hy
    dsimp only
    rw [hargs,hheap,h1];simp [eff,hw,hop,h1]
   ·have hop':((opE call (PX.ev (st i).ts) (base+p.res) p.op).run (st i).hp).map (fun x=>(⟨yh (st i).ts p.dst x.d,x.on (st i).hp⟩:St))=some (st (i+1)):=by
     split at hstep
     ·exact absurd ⟨_,_,by assumption⟩ hc
     ·exact hstep
    simp only [Option.map_eq_some_iff] at hop';obtain ⟨x,h1,h2⟩:=hop'
    have hfp2:y9 call base ps st i=⟨(opE call (PX.ev (st i).ts) (base+p.res) p.op).rd (st i).hp,(opE call (PX.ev (st i).ts) (base+p.res) p.op).lv (st i).hp,x.ws.map (·.1),x.fz,false⟩:=by
     rw [hfp];unfold zq;rw [if_pos hw];split
     ·exact absurd ⟨_,_,by assumption⟩ hc
     ·simp only [h1]
    have hcong:=zdU (call:=call) (r:=base+p.res) hev
    have hrun:(opE call (PX.ev (st i).ts) (base+p.res) p.op).run (sig call base ps st S ps.length).hp=some x:=by
     refine zdD h1 (fun id hid=> ?_) (fun id hid=> ?_)
     ·have hid':id∈(y9 call base ps st i).rd:=by rw [hfp2];exact hid
      have:=VJ hR (S:=S) (id:=id) hi hS (fun j hj hne ht=>by
       rcases hclash j hj hne with h | h | h
       ·have hs:=yY h
        rcases ht with ht | ht
        ·have:=jA (hs.1 ht);rw [this.2.1] at hid';cases hid'
        ·exact absurd hid' (hs.2.2.1 id ht).1
       ·have hs:=yY h
        rcases ht with ht | ht
        ·have:=jA (hs.2.1 ht);rw [this.2.1] at hid';cases hid'
        ·exact absurd hid' (hs.2.2.2.1 id ht).1
       ·exact h) ps.length (Nat.le_refl _)
      rw [hmin,Y8 hR i (by omega)] at this;exact this.1.symm
     ·have hid':id∈(y9 call base ps st i).lv:=by rw [hfp2];exact hid
      have:=zaO hR (S:=S) (id:=id) hi hS (fun j hj hne ht=>by
       rcases hclash j hj hne with h | h | h
       ·have hs:=yY h
        rcases ht with ht | ht | ht
        ·have:=jA (hs.1 ht);rw [this.2.2.1] at hid';cases hid'
        ·exact absurd hid' (hs.2.2.1 id ht).2.1
        ·exact absurd hid' (hs.2.2.2.2.1 id ht)
       ·have hs:=yY h
        rcases ht with ht | ht | ht
        ·have:=jA (hs.2.1 ht);rw [this.2.2.1] at hid';cases hid'
        ·exact absurd hid' (hs.2.2.2.1 id ht).2.1
        ·exact absurd hid' (hs.2.2.2.2.2 id ht)
       ·exact h) ps.length (Nat.le_refl _)
      rw [hmin,Y8 hR i (by omega)] at this;exact ⟨this.1.symm,by rw [this.2]⟩
    have e1:eff call base p (st i) (sig call base ps st S ps.length)=⟨yh (sig call base ps st S ps.length).ts p.dst x.d,x.on (sig call base ps st S ps.length).hp⟩:=by
     unfold eff;rw [if_pos hw];split
     ·exact absurd ⟨_,_,by assumption⟩ hc
     ·simp only [h1]
    rw [e1];split
    ·exact absurd ⟨_,_,by assumption⟩ hc
    ·rw [hcong,hrun];rfl
  ·rename_i hw;rw [if_neg hw];simp [eff,hw]
 ·cases hstep
theorem zkz {i k:Nat}(hik:i<k)(hk:k<ps.length)(hn:i ∉ (pAt ps k).after)(t:St):E call base ps st k (E call base ps st i t)=E call base ps st i (E call base ps st k t):=by
 have hcl:clash (y9 call base ps st i) (y9 call base ps st k)=false:=(hR.clash i k hik hk).resolve_left hn
 have hdst: ∀t,(pAt ps i).dst=some t→(pAt ps k).dst≠some t:=fun t h1 h2=>hn (hR.tmps i k hik hk (.inl ⟨t,h1,.inr h2⟩))
 obtain ⟨s1,s2,s3,s4,s5,s6⟩:=yY hcl
 obtain ⟨d,a1,_,a3⟩:=jV hR (show i<ps.length by omega)
 obtain ⟨d',b1,_,b3⟩:=jV hR hk
 have hts:(E call base ps st k (E call base ps st i t)).ts=(E call base ps st i (E call base ps st k t)).ts:=by
  rw [b1,a1,a1,b1];exact zdG hdst
 have hhp:(E call base ps st k (E call base ps st i t)).hp=(E call base ps st i (E call base ps st k t)).hp:=by
  rcases a3 with ⟨_,x,x1,x2,x3⟩ | ⟨ha,hca⟩
  ·rcases b3 with ⟨_,y,y1,y2,y3⟩ | ⟨hb,hcb⟩
   ·rw [y3,x3,x3,y3];refine zgc (by rw [yx,yx,yx,yx]) (fun id=> ?_)
    unfold Out.on;have inx: ∀ {id:Nat},(∀z∈x.ws,z.1≠id)∨id∈(y9 call base ps st i).wr:=by
     intro id;by_cases h: ∃z∈x.ws,z.1=id
     ·obtain ⟨z,hz,e⟩:=h
      right;rw [←x1,←e];exact List.mem_map_of_mem hz
     ·left;exact fun z hz e=>h ⟨z,hz,e⟩
    have iny: ∀ {id:Nat},(∀z∈y.ws,z.1≠id)∨id∈(y9 call base ps st k).wr:=by
     intro id;by_cases h: ∃z∈y.ws,z.1=id
     ·obtain ⟨z,hz,e⟩:=h
      right;rw [←y1,←e];exact List.mem_map_of_mem hz
     ·left;exact fun z hz e=>h ⟨z,hz,e⟩
    rcases inx (id:=id) with hx | hx
    ·rcases iny (id:=id) with hy | hy
     ·simp only [yG,yt _ _ _ hx,yt _ _ _ hy];by_cases f1:id∈x.fz<;>by_cases f2:id∈y.fz<;>simp [f1,f2]
     ·have hnf:id ∉ x.fz:=fun h=>(s4 id hy).2.2 (by rw [←x2];exact h)
      rw [yG,yG,if_neg hnf];have e1:hat (ye (qD (ye t.hp x.ws) x.fz) y.ws) id=hat (ye t.hp y.ws) id:=by
       refine QD y.ws _ _ id ?_ ?_
       ·rw [yG,if_neg hnf,yt _ _ _ hx]
       ·have:(qD (ye t.hp x.ws) x.fz).length=t.hp.length:=yx x t.hp
        rw [this]
      have e2:hat (ye (qD (ye t.hp y.ws) y.fz) x.ws) id=hat (qD (ye t.hp y.ws) y.fz) id:=yt _ _ _ hx
      rw [e1,e2,yG]
    ·have hy: ∀z∈y.ws,z.1≠id:=by
      rcases iny (id:=id) with h | h
      ·exact h
      ·exact absurd h (s3 id hx).2.2.1
     have hnf:id ∉ y.fz:=fun h=>(s3 id hx).2.2.2 (by rw [←y2];exact h)
     rw [yG,yG,if_neg hnf];have e1:hat (ye (qD (ye t.hp y.ws) y.fz) x.ws) id=hat (ye t.hp x.ws) id:=by
      refine QD x.ws _ _ id ?_ ?_
      ·rw [yG,if_neg hnf,yt _ _ _ hy]
      ·have:(qD (ye t.hp y.ws) y.fz).length=t.hp.length:=yx y t.hp
       rw [this]
     have e2:hat (ye (qD (ye t.hp x.ws) x.fz) y.ws) id=hat (qD (ye t.hp x.ws) x.fz) id:=yt _ _ _ hy
     rw [e1,e2,yG]
   ·have hi:=s2 hb
    rw [UB hR (by omega) hi,hcb,hcb]
  ·have hidk:=s1 ha
   rw [UB hR hk hidk,hca,hca]
 exact St.ext hts hhp
theorem zg0 {S:Nat→Bool}{i:Nat}(hi:i<ps.length)(hS:S i=false)(hd:zjh ps S): ∀k,k≤ps.length→i<k →
  sig call base ps st (fun j=>S j || j==i) k=E call base ps st i (sig call base ps st S k):=by
 have pre: ∀k,k≤i→sig call base ps st (fun j=>S j || j==i) k=sig call base ps st S k:=by
  intro k;induction k with
  | zero=>intro _;rfl
  | succ k ih=>
   intro hk;have: ¬k=i:=by omega
   simp only [sig,ih (by omega)];simp [this]
 intro k;induction k with
 | zero=>intro _ h;omega
 | succ k ih=>
  intro hk hik;by_cases e:k=i
  ·subst e;simp only [sig,pre k (Nat.le_refl _),hS];simp
  ·have hlt:i<k:=by omega
   have:=ih (by omega) hlt
   simp only [sig,this];have hb:(k==i)=false:=by simpa using e
   simp only [hb,Bool.or_false];split
   ·rename_i hs;refine zkz hR hlt (by omega) (fun hin=> ?_) _
    have:=hd k (by omega) hs i hin
    rw [hS] at this;cases this
   ·rfl
end
end
def zkA (ps:List PO):Prop:= ∀j k,j<k→k<ps.length→((∃t,(pAt ps j).dst=some t∧(t∈(pAt ps k).uses∨(pAt ps k).dst=some t))∨(∃t,(pAt ps k).dst=some t∧t∈(pAt ps j).uses))→j∈(pAt ps k).after
section
variable {P:Program} {fm:Nat→Nat} {B:qo} {w:World} {G:Gh} {o:Oper} {a:Act} {call:zy}
theorem UE {ops:Array Oper}: ∀ {l:List Oper} {ps:List PO} {i:Nat},TrL P fm ops i l ps→l.length=ps.length
 | [],[],_,.nil=>rfl
 | o::l,p::ps,_,.cons _ h=>by simp [UE h]
theorem V6 {ops:Array Oper}(l:List Oper): ∀ {ps:List PO} {i:Nat},TrL P fm ops i l ps→ ∀(k:Nat) (o:Oper),l[k]? = some o→zew P fm ops (i+k) o (pAt ps k):=by
 induction l with
 | nil=>intro ps i _ k o hk;simp at hk
 | cons o l ih=>
  intro ps i ht k o' hk
  cases ht with
  | cons h htl=>
   cases k with
   | zero=>simp at hk;subst hk;exact h
   | succ k=>
    have:=ih htl k o' (by simpa using hk)
    rw [show i+(k+1)=i+1+k by omega];exact this
def cnt (S:Nat→Bool):Nat→Nat
 | 0=>0
 | k+1=>(if S k then 0 else 1)+cnt S k
theorem za2 {S:Nat→Bool}: ∀ {n:Nat},cnt S n=0→ ∀j,j<n→S j=true
 | n+1,h,j,hj=>by
  simp only [cnt] at h;by_cases e:j=n
  ·subst e
   cases hs:S j with
   | true=>rfl
   | false=>rw [hs] at h;simp at h
  ·exact za2 (n:=n) (by omega) j (by omega)
theorem zfB {S:Nat→Bool}{i:Nat}: ∀n,cnt (fun j=>S j || j==i) n≤cnt S n
 | 0=>Nat.le_refl _
 | n+1=>by
  have:=zfB (S:=S) (i:=i) n
  simp only [cnt];by_cases h:S n=true
  ·simp [h];omega
  ·simp [h];split<;>omega
theorem zc6 {S:Nat→Bool}{i:Nat}(hS:S i=false): ∀n,i<n→cnt (fun j=>S j || j==i) n+1≤cnt S n
 | n+1,h=>by
  by_cases e:i=n
  ·subst e;have:=zfB (S:=S) (i:=i) i
   simp only [cnt,hS];simp
   omega
  ·have:=zc6 hS n (by omega)
   simp only [cnt];by_cases h':S n=true
   ·simp [h'];omega
   ·simp [h'];split<;>omega
theorem zfR {ops:Array Oper}{ps:List PO}(htl:TrL P fm ops 0 ops.toList ps){k i:Nat}(h:Reach ops k i):i<ps.length→k<i:=by
 induction h with
 | one ho he hb=>
  intro hi;have:=V6 _ htl _ _ (by rw [Array.getElem?_toList];exact ho)
  rw [Nat.zero_add] at this;exact this.lt _ he hb
 | trans q1 q2 i1 i2=>
  intro hi;have h1:=i2 hi
  have h2:=i1 (by omega)
  omega
theorem zgg (hs:Js P fm call){ops:Array Oper}{ps:List PO}(htl:TrL P fm ops 0 ops.toList ps){base:Nat}{st:Nat→St}(hR:Run call base ps st){Q:Exit→Act→World→Prop}
  {w0:World} {G0:Gh} {H0:zf} (hQ: ∀a' w' G',YP fm B w' G' (st ps.length) a'→Adv B w0 G0 H0 w' G' (st ps.length).hp→Q .normal a' w') :
  ∀(fuel:Nat) (listed:Array Bool) (S:Nat→Bool) (w:World) (G:Gh) (a:Act),listed.size=ops.size→(∀j,j<ps.length→listed.getD j true=S j)→(∀j,j<ps.length→S j=true→ ∀k,Reach ops k j→S k=true)→cnt S ps.length≤fuel →
   YP fm B w G (sig call base ps st S ps.length) a→Adv B w0 G0 H0 w G (sig call base ps st S ps.length).hp→wpAny P .any ops Q fuel listed a w:=by
 have hlen:ops.size=ps.length:=by rw [←UE htl,Array.length_toList]
 have hall: ∀ {S:Nat→Bool},(∀j,j<ps.length→S j=true)→sig call base ps st S ps.length=st ps.length:=by
  intro S h;have: ∀k,k≤ps.length→sig call base ps st S k=st k:=by
   intro k;induction k with
   | zero=>intro _;rfl
   | succ k ih=>
    intro hk;simp only [sig,h k (by omega),if_true,ih (by omega)];exact (jV hR (by omega)).choose_spec.2.1
  exact this _ (Nat.le_refl _)
 have done: ∀ {listed:Array Bool} {S:Nat→Bool},listed.size=ops.size→(∀j,j<ps.length→listed.getD j true=S j)→Region.ready .any ops listed= []→ ∀n j,j<n→j<ps.length→S j=true:=by
  intro listed S hsz hl hr n;induction n with
  | zero=>intro j h;omega
  | succ n ih=>
   intro j hj hjl
   cases hsj:S j with
   | true=>rfl
   | false=>
    exfalso
    have hj':j<ops.toList.length:=by rw [Array.length_toList,hlen];exact hjl
    have ht:=V6 _ htl j ops.toList[j] (List.getElem?_eq_getElem hj')
    have:j∈Region.ready .any ops listed:=by
     rw [mem_ready];refine ⟨by rw [hl j hjl,hsj],ops.toList[j],by simp [hlen,hjl],fun e he hb=> ?_⟩
     have hlt:=ht.lt e (Array.mem_toList_iff.2 he) hb
     have h1:=ih e.on (by omega) (by omega)
     have h2:=hl e.on (by omega)
     rw [h1] at h2;rw [Array.getD_eq_getD_getElem?] at h2 ⊢
     have:e.on<listed.size:=by omega
     simp only [Array.getElem?_eq_getElem this,Option.getD_some] at h2 ⊢
     exact h2
    rw [hr] at this
    cases this
 intro fuel;induction fuel with
 | zero=>
  intro listed S w G a hsz hl hd hc hrel hadv;have hS:=za2 (show cnt S ps.length=0 by omega)
  have hr:Region.ready .any ops listed= []:=by
   rw [List.eq_nil_iff_forall_not_mem];intro j hj;rw [mem_ready] at hj;obtain ⟨h1,o,ho,_⟩:=hj
   have hjl:j<ps.length:=by rw [←hlen];exact (Array.getElem?_eq_some_iff.1 ho).1
   rw [hl j hjl,hS j hjl] at h1
   cases h1
  rw [hall hS] at hrel hadv;exact ⟨hr,hQ a w G hrel hadv⟩
 | succ fuel ih=>
  intro listed S w G a hsz hl hd hc hrel hadv;refine ⟨fun hr=> ?_,fun i hi=> ?_⟩
  ·have hS:=fun j hj=>done hsz hl hr (j+1) j (by omega) hj
   rw [hall hS] at hrel hadv;exact hQ a w G hrel hadv
  ·rw [mem_ready] at hi;obtain ⟨h1,o,ho,h2⟩:=hi
   have hil:i<ps.length:=by rw [←hlen];exact (Array.getElem?_eq_some_iff.1 ho).1
   have hSi:S i=false:=by rw [←hl i hil];exact h1
   have ht:=V6 _ htl i o (by rw [Array.getElem?_toList];exact ho)
   simp only [Nat.zero_add] at ht;have hrr: ∀k,Reach ops k i→S k=true:=by
    intro k hk;have: ∀ {k i:Nat},Reach ops k i→(∀o,ops[i]? = some o→ ∀e∈o.after,Region.binds .any e=true→S e.on=true)→(∀j,Reach ops j i→j<ps.length)→S k=true:=by
     intro k i h;induction h with
     | one ho he hb=>exact fun h3 _=>h3 _ ho _ (Array.mem_toList_iff.1 he) hb
     | trans q1 q2 i1 i2=>exact fun h3 h4=>hd _ (h4 _ q2) (i2 h3 h4) _ q1
    refine this hk (fun o' ho' e he hb=> ?_) (fun j hj=> ?_)
    ·rw [ho] at ho';injection ho' with ho';subst ho';have hlt:=ht.lt e (Array.mem_toList_iff.2 he) hb
     have:=h2 e he hb
     rw [←hl e.on (by omega)];rw [Array.getD_eq_getD_getElem?] at this ⊢
     have hh:e.on<listed.size:=by omega
     simp only [Array.getElem?_eq_getElem hh,Option.getD_some] at this ⊢
     exact this
    ·have:=zfR htl hj hil
     omega
   have hr: ∀k∈(pAt ps i).after,S k=true:=by
    intro k hk;exact hrr k (ht.after k hk)
   have hdn:zjh ps S:=by
    intro j hj hs k hk;have hj':j<ops.toList.length:=by rw [Array.length_toList,hlen];exact hj
    have:=V6 _ htl j ops.toList[j] (List.getElem?_eq_getElem hj')
    rw [Nat.zero_add] at this;exact hd j hj hs k (this.after k hk)
   have hstep:=zfJ hR hil hSi hdn hr
   have hsig:=zg0 hR hil hSi hdn ps.length (Nat.le_refl _) hil
   have hd': ∀j,j<ps.length→(S j || j==i)=true→ ∀k,Reach ops k j→(S k || k==i)=true:=by
    intro j hj hs k hk;simp only [Bool.or_eq_true,beq_iff_eq] at hs ⊢
    rcases hs with hs | rfl
    ·exact .inl (hd j hj hs k hk)
    ·exact .inl (hrr k hk)
   have hl': ∀j,j<ps.length→(listed.setIfInBounds i true).getD j true=(S j || j==i):=by
    intro j hj;have:=hl j hj
    rw [Array.getD_eq_getD_getElem?] at this ⊢
    rw [Array.getElem?_setIfInBounds];by_cases e:i=j
    ·subst e;have:i<listed.size:=by omega
     simp [this]
    ·have e':(j==i)=false:=by simp;exact fun h=>e h.symm
     simp only [e,if_false,e',Bool.or_false];exact this
   have:=zaq hs (K:=wpAny P .any ops Q fuel (listed.setIfInBounds i true)) (Q:=Q) ht hrel hstep (fun a' w' G' hr' ha'=>by
    rw [←hsig] at hr' ha';exact ih _ _ w' G' a' (by simpa using hsz) hl' hd' (by have:=zc6 hSi ps.length hil;omega) hr' (hadv.trans ha'))
   unfold wpOp;rw [ho];simp only
   split
   ·rename_i hw;rw [if_pos hw] at this;exact .inl this
   ·rename_i hw;rw [if_neg hw] at this;exact this
def zbB:Ex→Exit
 | .normal=> .normal
 | .exit id=> .exit id
 | .ret=> .ret
inductive TrC (P:Program) (fm:Nat→Nat):Code→PC→Prop where
 | skip:TrC P fm .skip .skip
 | label (l:Nat):TrC P fm (.label l) .skip
 | region {id n:Nat} {ops:Array Oper} {ps:List PO} (h:TrL P fm ops 0 ops.toList ps):TrC P fm (.region id ops false) (.region false n ps)
 | regionD {id n:Nat} {ops:Array Oper} {ps:List PO} (h:TrL P fm ops 0 ops.toList ps) (hd:zkA ps):TrC P fm (.region id ops true) (.region true n ps)
 | seq {x y:Code} {px py:PC} (hx:TrC P fm x px) (hy:TrC P fm y py):TrC P fm (.seq x y) (.seq px py)
 | cond {c:Operand} {pc:PX} {x y:Code} {px py:PC} (hc:TrX fm c pc) (hx:TrC P fm x px) (hy:TrC P fm y py):TrC P fm (.cond c x y) (.cond pc px py)
 | block {id:Nat} {c:Code} {pc:PC} (h:TrC P fm c pc):TrC P fm (.block id c) (.block id pc)
 | loop {c:Code} {pc:PC} (h:TrC P fm c pc):TrC P fm (.loop c) (.loop pc)
 | exit (id:Nat):TrC P fm (.exit id) (.exit id)
 | ret:TrC P fm .ret .ret
theorem zc5 (hs:Js P fm call)(hm:P.follows .mixedOrders=true){fuel:Nat}{c:Code}{pc:PC}(ht:TrC P fm c pc): ∀ {w:World} {G:Gh} {s s':St} {a:Act} {ex:Ex} {Q:Exit→Act→World→Prop},
  YP fm B w G s a→code call fuel pc s=some (ex,s')→(∀a' w' G',YP fm B w' G' s' a'→Adv B w G s.hp w' G' s'.hp→Q (zbB ex) a' w')→c.wp P Q a w:=by
 induction ht with
 | skip=>
  intro w G s s' a ex Q hrel h hQ;simp only [code,Option.some.injEq,Prod.mk.injEq] at h;obtain ⟨rfl,rfl⟩:=h
  exact wp_skip (hQ a w G hrel (Adv.refl _ _ _ _))
 | label l=>
  intro w G s s' a ex Q hrel h hQ;simp only [code,Option.some.injEq,Prod.mk.injEq] at h;obtain ⟨rfl,rfl⟩:=h
  exact wp_label (hQ a w G hrel (Adv.refl _ _ _ _))
 | region htl=>
  intro w G s s' a ex Q hrel h hQ;simp only [code,Bool.false_eq_true,if_false,Option.map_eq_some_iff,Prod.mk.injEq] at h;obtain ⟨s1,h1,rfl,rfl⟩:=h
  obtain ⟨f1,f2⟩:=zaK hrel.inv (fm:=fm) (n:=_)
  exact wp_region_list (zg1 hs _ htl (s:=⟨s.ts,s.hp++List.replicate _ .fresh⟩) ⟨hrel.ts.mono (fun v d hv=>f1.rep hv),f2,hrel.defers⟩ h1 (fun a' w' G' hr ha=>hQ a' w' G' hr (f1.trans ha)))
 | regionD htl hd=>
  intro w G s s' a ex Q hrel h hQ;simp only [code,if_true,Option.map_eq_some_iff,Prod.mk.injEq] at h;obtain ⟨s1,h1,rfl,rfl⟩:=h
  rename_i id n ops ps;obtain ⟨f1,f2⟩:=zaK hrel.inv (fm:=fm) (n:=n)
  obtain ⟨d1,d2⟩:=zaL f2
  obtain ⟨st,g1,g2,g3,g4⟩:=zat h1
  have hpk: ∀k,k<ps.length→ps[k]? = some (pAt ps k):=fun k hk=>by unfold pAt;rw [List.getD_eq_getElem?_getD,List.getElem?_eq_getElem hk];rfl
  have hR:Run call s.hp.length ps st:=⟨fun k hk=>g3 k _ (hpk k hk),fun j k hj hk=>by
   have:=(g4 k _ (hpk k hk)).2 j _ hj (hpk j (by omega))
   rw [Nat.zero_add] at this;exact this,hd⟩
  have hlen:ops.size=ps.length:=by rw [←UE htl,Array.length_toList]
  have hsig0: ∀k,sig call s.hp.length ps st (fun _=>false) k=st 0:=by
   intro k;induction k with
   | zero=>rfl
   | succ k ih=>simp only [sig,Bool.false_eq_true,if_false,ih]
  refine wp_region_any hm (zgg (B:=B) hs htl hR (w0:=w) (G0:=G) (H0:=s.hp) (fun a' w' G' hr ha=> ?_) ops.size (Array.replicate ops.size false) (fun _=>false) w.drew G a (by simp) (fun j hj=>by simp [Array.getD_eq_getD_getElem?,hlen,hj])
   (fun j hj h=>by cases h) ?_ ?_ ?_)
  ·rw [g2] at hr ha;exact hQ a' w' G' hr ha
  ·rw [hlen];have: ∀n,cnt (fun _=>false) n≤n:=by
    intro n;induction n with
    | zero=>exact Nat.le_refl _
    | succ n ih=>simp only [cnt];simp;omega
   exact this _
  ·rw [hsig0,g1];exact ⟨hrel.ts.mono (fun v d hv=>(f1.trans d1).rep hv),d2,hrel.defers⟩
  ·rw [hsig0,g1];exact f1.trans d1
 | seq hx hy ihx ihy=>
  intro w G s s' a ex Q hrel h hQ;simp only [code] at h;split at h
  ·rename_i s1 h1;exact wp_seq (ihx hrel h1 (fun a' w' G' hr ha=>ihy hr h (fun a'' w'' G'' hr2 ha2=>hQ a'' w'' G'' hr2 (ha.trans ha2))))
  ·rename_i hne;refine wp_seq (ihx hrel h (fun a' w' G' hr ha=> ?_))
   cases ex with
   | normal=>exact absurd h (hne s')
   | exit id=>exact hQ a' w' G' hr ha
   | ret=>exact hQ a' w' G' hr ha
 | cond hc hx hy ihx ihy=>
  intro w G s s' a ex Q hrel h hQ;simp only [code] at h;have hv:=zr hrel.ts hc
  split at h
  ·rename_i b e;rw [e] at hv;refine wp_cond hv.inv_bool ?_
   cases b with
   | true=>exact ihx hrel h hQ
   | false=>exact ihy hrel h hQ
  ·cases h
 | block hc ih=>
  intro w G s s' a ex Q hrel h hQ;rename_i id c pc;simp only [code] at h;split at h
  ·rename_i j s1 h1;refine wp_block (ih hrel h1 (fun a' w' G' hr ha=> ?_))
   simp only [zbB,Exit.inBlock];split at h
   ·rename_i e;simp only [Option.some.injEq,Prod.mk.injEq] at h;obtain ⟨rfl,rfl⟩:=h
    rw [if_pos e];exact hQ a' w' G' hr ha
   ·rename_i e;simp only [Option.some.injEq,Prod.mk.injEq] at h;obtain ⟨rfl,rfl⟩:=h
    rw [if_neg e];exact hQ a' w' G' hr ha
  ·rename_i hne;refine wp_block (ih hrel h (fun a' w' G' hr ha=> ?_))
   cases ex with
   | normal=>exact hQ a' w' G' hr ha
   | exit id=>exact absurd h (hne id s')
   | ret=>exact hQ a' w' G' hr ha
 | loop hc ih=>
  intro w G s s' a ex Q hrel h hQ;rename_i c pc;simp only [code] at h;have key: ∀n {w:World} {G:Gh} {s:St} {a:Act},YP fm B w G s a→y8 (code call fuel pc) n s=some (ex,s') →
    (∀a' w' G',YP fm B w' G' s' a'→Adv B w G s.hp w' G' s'.hp→Q (zbB ex) a' w')→Code.rounds P c Q n a w:=by
   intro n;induction n with
   | zero=>intro w G s a _ h;simp [y8] at h
   | succ n ihn=>
    intro w G s a hrel h hQ;simp only [y8] at h;rw [rounds_succ];split at h
    ·rename_i s1 h1;exact ih hrel h1 (fun a' w' G' hr ha=>ihn hr h (fun a'' w'' G'' hr2 ha2=>hQ a'' w'' G'' hr2 (ha.trans ha2)))
    ·rename_i hne;refine ih hrel h (fun a' w' G' hr ha=> ?_)
     cases ex with
     | normal=>exact absurd h (hne s')
     | exit id=>exact hQ a' w' G' hr ha
     | ret=>exact hQ a' w' G' hr ha
  exact wp_loop_rounds fuel (key fuel hrel h hQ)
 | exit id=>
  intro w G s s' a ex Q hrel h hQ;simp only [code,Option.some.injEq,Prod.mk.injEq] at h;obtain ⟨rfl,rfl⟩:=h
  exact wp_exit (hQ a w G hrel (Adv.refl _ _ _ _))
 | ret=>
  intro w G s s' a ex Q hrel h hQ;simp only [code,Option.some.injEq,Prod.mk.injEq] at h;obtain ⟨rfl,rfl⟩:=h
  exact wp_ret (hQ a w G hrel (Adv.refl _ _ _ _))
inductive TrR (P:Program):List ResultVar→List PR→Prop where
 | nil:TrR P [] []
 | tmp {t:Nat} {rs:List ResultVar} {qs:List PR} (h:TrR P rs qs):TrR P (.tmp t::rs) (.tmp t::qs)
 | cell {a t n:Nat} {ag:Bool} {rs:List ResultVar} {qs:List PR} (hs:Shape P t ag n) (h:TrR P rs qs):TrR P (.cell a t::rs) (.cell ag n a::qs)
structure TrF (P:Program) (fm:Nat→Nat) (fn:Func) (pf:PF):Prop where
 body: ∃c,fn.body=some c∧TrC P fm c pf.body
 ntmps:fn.ntmps=pf.ntmps
 results:TrR P fn.results.toList pf.results
 orc:pf.orc=none
def QS (tmps:Array Value):ResultVar→Sem Value
 | .tmp t=>pure (tmps.getD t undef)
 | .cell p t=>do loadVar t (←asAddr (tmps.getD p undef))
theorem zbC {s:St}(hrel:YP fm B w G s a): ∀ {rs:List ResultVar} {qs:List PR} {ds:List D},TrR P rs qs→YB s qs=some ds →
  ∃vs:List Value,(rs.mapM (QS a.tmps)).run P w= .ok vs w∧vs.length=ds.length ∧
   ∀(j:Nat) (v:Value) (d:D),vs[j]? = some v→ds[j]? = some d→Rep fm G (okB B G s.hp w) w v d
 | [],[],ds,.nil,h=>by
  simp only [YB,Option.some.injEq] at h;subst h;exact ⟨[],by simp,rfl,by simp⟩
 | .tmp t::rs,.tmp _::qs,ds,.tmp ht,h=>by
  simp only [YB,YC,Option.bind_some,Option.map_eq_some_iff] at h;obtain ⟨ds',h1,rfl⟩:=h
  obtain ⟨vs,k1,k2,k3⟩:=zbC hrel ht h1
  refine ⟨a.tmps.getD t undef::vs,by rw [List.mapM_cons];simp only [QS,Sem.run_bind,Sem.run_pure,Result.andThen_ok,k1],by simp [k2],fun j v d hv hd=> ?_⟩
  cases j with
  | zero=>
   simp at hv hd;subst hv;subst hd;have:=hrel.ts.getD (fun v=> .closed (.undef v)) t
   simpa using this
  | succ j=>exact k3 j v d (by simpa using hv) (by simpa using hd)
 | .cell p t::rs,.cell ag n _::qs,ds,.cell hs ht,h=>by
  simp only [YB,Option.bind_eq_some_iff,Option.map_eq_some_iff] at h;obtain ⟨d0,h0,ds',h1,rfl⟩:=h
  obtain ⟨vs,k1,k2,k3⟩:=zbC hrel ht h1
  have hp:=hrel.ts.getD (fun v=> .closed (.undef v)) p
  simp only [YC] at h0;split at h0
  ·rename_i id e;rw [e] at hp;split at h0
   ·rename_i sz e' lv hh;split at h0
    ·rename_i hl;obtain ⟨b,cap,g1,g2,g3⟩:=hrel.inv.rows id sz [e'] lv hh
     have hv:=hp.inv_ptr g1
     obtain ⟨cs,c1,c2⟩:=g3.range (i:=0) (e:=e') rfl
     simp only [Nat.zero_mul] at c2;obtain ⟨v0,l1,l2⟩:=UM (P:=P) hs c1 c2 hl h0 (fun vs h=>qi vs h)
     have hrun:(QS a.tmps (.cell p t)).run P w= .ok v0 w:=by
      simp only [QS];rw [hv];simpa [Instr.loadAt,Instr.sureAddr,asAddr] using l1
     refine ⟨v0::vs,?_,by simp [k2],fun j v d hv hd=> ?_⟩
     ·rw [List.mapM_cons];simp only [Sem.run_bind,hrun,Result.andThen_ok,k1,Sem.run_pure]
     ·cases j with
      | zero=>
       simp at hv hd;subst hv;subst hd;exact l2
      | succ j=>exact k3 j v d (by simpa using hv) (by simpa using hd)
    ·cases h0
   ·cases h0
  ·cases h0
theorem zcP {s:St}(hrel:YP fm B w G s a){fn:Func}{qs:List PR}{d:D}(ht:TrR P fn.results.toList qs)(h:jQ s qs=some d) :
  ∃v,(results fn a.tmps).run P w= .ok v w∧Rep fm G (okB B G s.hp w) w v d:=by
 unfold jQ at h;simp only [Option.map_eq_some_iff] at h;obtain ⟨ds,h1,h2⟩:=h
 obtain ⟨vs,k1,k2,k3⟩:=zbC hrel ht h1
 have hrun:(results fn a.tmps).run P w= .ok (if h:vs.toArray.size=1 then vs.toArray[0] else .tuple vs.toArray) w:=by
  have hd:results fn a.tmps=(do
    let vs ← fn.results.mapM (QS a.tmps)
    pure (if h:vs.size=1 then vs[0] else .tuple vs)):=rfl
  rw [hd,Sem.run_bind];have:(fn.results.mapM (QS a.tmps)).run P w= .ok vs.toArray w:=by
   rw [Array.mapM_eq_mapM_toList];simp [k1]
  rw [this];rfl
 refine ⟨_,hrun,?_⟩
 match ds,vs,k2,h2,k3 with
 | [d0],[v0],_,h2,k3=>
  simp only at h2
  subst h2;simpa using k3 0 v0 d0 rfl rfl
 | [],[],_,h2,k3=>
  simp only at h2
  subst h2;exact .tup [] [] rfl (by simp)
 | d0::d1::ds,v0::v1::vs,k2,h2,k3=>
  simp only at h2
  subst h2;have: ¬(v0::v1::vs).toArray.size=1:=by simp
  rw [dif_neg this];exact .tup _ _ k2 (fun j d v h1 h2=>k3 j v d h2 h1)
def zoh (P:Program)(fm:Nat→Nat)(f:Nat)(g:List D→Option D):Prop:=
 ∀(args:List D) (d:D),g args=some d→ ∀(B:qo) (w:World) (G:Gh) (H:zf) (vs:List Value),Inv fm B w G H→vs.length=args.length →
  (∀(j:Nat) (v:Value) (x:D),vs[j]? = some v→args[j]? = some x→Rep fm G (okB B G H w) w v x) →
  Calls P (fm f) vs.toArray w fun e w'=> ∃v G',e= .returned v∧Adv B w G H w' G' H∧Inv fm B w' G' H∧Rep fm G' (okB B G' H w') w' v d
def UA (P:Program)(fm:Nat→Nat)(pr:yn):Prop:= ∀f pf,pr f=some pf→(∃fn,P.funcs[fm f]? = some fn∧TrF P fm fn pf) ∨ ∃g,pf.orc=some g∧zoh P fm f g
theorem zbX (hm:P.follows .mixedOrders=true){pr:yn}(hl:UA P fm pr): ∀n,Js P fm (runN pr n):=by
 intro n;induction n with
 | zero=>intro f args H d H' h;simp [runN] at h
 | succ n ih=>
  intro f args H d H' h B w G vs hI hlen hargs;simp only [runN] at h
  cases hp:pr f with
  | none=>rw [hp] at h;cases h
  | some pf=>
   rw [hp] at h;simp only at h
   rcases hl f pf hp with ⟨fn,hf,⟨c,hb,hc⟩,hn,hr,ho⟩ | ⟨g,ho,hg⟩
   case inr=>
    rw [ho] at h;simp only [Option.map_eq_some_iff,Prod.mk.injEq] at h;obtain ⟨d',hd,rfl,rfl⟩:=h
    exact hg args _ hd B w G H vs hI hlen hargs
   rw [ho] at h;simp only at h
   have hrel:YP fm B w G ⟨args++List.replicate (pf.ntmps-args.length) .undef,H⟩ { tmps:=vs.toArray++Array.replicate (fn.ntmps-vs.toArray.size) undef,defers:= [] }:=by
    refine ⟨⟨?_,fun j x hx=> ?_⟩,hI,rfl⟩
    ·simp [hlen,hn]
    ·rw [List.getElem?_append] at hx;split at hx
     ·rename_i hj;have hjv:j<vs.length:=by omega
      refine ⟨vs[j],by rw [Array.getElem?_append_left (by simpa using hjv)];simp [hjv],hargs j _ x (List.getElem?_eq_getElem hjv) hx⟩
     ·rename_i hj;rw [List.getElem?_replicate] at hx;split at hx
      ·rename_i hk;injection hx with hx;subst hx;refine ⟨undef,?_,.closed (.undef _)⟩
       rw [Array.getElem?_append_right (by simp;omega),Array.getElem?_replicate]
       simp only [List.size_toArray];rw [if_pos (by omega)]
      ·cases hx
   refine calls_of_wp hf hb ?_
   split at h
   ·rename_i s h1;simp only [Option.map_eq_some_iff,Prod.mk.injEq] at h;obtain ⟨d',hres,rfl,rfl⟩:=h
    refine zc5 ih hm hc hrel h1 (fun a' w' G' hr' ha=> ?_)
    obtain ⟨v,k1,k2⟩:=zcP hr' hr hres
    exact ⟨hr'.defers,v,k1,v,G',rfl,ha,hr'.inv,k2⟩
   ·rename_i s h1;simp only [Option.map_eq_some_iff,Prod.mk.injEq] at h;obtain ⟨d',hres,rfl,rfl⟩:=h
    refine zc5 ih hm hc hrel h1 (fun a' w' G' hr' ha=> ?_)
    obtain ⟨v,k1,k2⟩:=zcP hr' hr hres
    exact ⟨hr'.defers,v,k1,v,G',rfl,ha,hr'.inv,k2⟩
   ·cases h
end
def zgw:Value→Option D
 | .bool b=>some (.bool b)
 | .int k n=>some (.int k n)
 | .float .f64 b=>some (.flt (some b))
 | .string s=>some (.str s.data.toList)
 | .slice none 0 0=>some .nil
 | .pointer none=>some .nilp
 | _=>none
def Jm:List Value→Option (List D)
 | []=>some []
 | v::vs=>(zgw v).bind fun d=>(Jm vs).bind fun ds=>some (d::ds)
def zir:Value→Option D
 | .agg cs=>(Jm cs.toList).map .agg
 | v=>zgw v
structure Cfg where
 fi:Nat→Option Nat
 fm:Nat→Nat
 heapy:Nat→Bool
 modes:Nat→List Nat
 ext:Nat→Option Bool
 fns:List Nat
def trX (c:Cfg):Operand→Option PX
 | .tmp t=>some (.t t)
 | .const v=>(zir v).map .c
 | .func f=>(c.fi f).bind fun p=>if c.fm p=f then some (.c (.fn p)) else none
 | .global _=>none
def zbj (c:Cfg):List Operand→Option (List PX)
 | []=>some []
 | x::xs=>(trX c x).bind fun p=>(zbj c xs).bind fun ps=>some (p::ps)
def trA (c:Cfg):List Operand→List Nat→Option (List (Nat×PX))
 | [],_=>some []
 | x::xs,ms=>(trX c x).bind fun p=>(trA c xs ms.tail).bind fun ps=>some ((ms.headD 0,p)::ps)
def trS (c:Cfg):List (Nat×Operand)→Option (List (Nat×PX))
 | []=>some []
 | (i,x)::xs=>(trX c x).bind fun p=>(trS c xs).bind fun ps=>some ((i,p)::ps)
def trO (c:Cfg):Option Operand→Option (Option PX)
 | none=>some none
 | some x=>(trX c x).map some
def trP (c:Cfg)(pl:Nat→Option (Nat×Nat)):List (Nat×Operand)→Option (List (Nat×Nat×PX))
 | []=>some []
 | (i,x)::xs=>(pl i).bind fun q=>(trX c x).bind fun p=>(trP c pl xs).bind fun ps=>some ((q.1,q.2,p)::ps)
def shapeOf (P:Program)(t:TypeId):Option (Bool×Nat):=
 match P.underlying t,P.info? t with
 | some d,some i=>some (qh d,i.size)
 | _,_=>none
def zeroOf (P:Program)(t:TypeId):Option (List D):=
 match P.info? t with
 | some i=>match i.zero with
  | some z=>Jm z.cells.toList
  | none=>none
 | none=>none
def UF (P:Program)(c:Cfg)(t:TypeId)(parts:List (Nat×Operand)):Option POp:=
 match P.info? t,P.underlying t with
 | some it,some (.array _ e)=>
  match it.zero,P.info? e with
  | some z,some ie=>(Jm z.cells.toList).bind fun zs=>(trP c (fun i=>some (i*ie.size,ie.size)) parts).bind fun ps=>some (.build zs ps)
  | _,_=>none
 | some it,some (.struct fields)=>
  match it.zero,fields.toList.mapM (fun f=>(P.info? f.type).map fun i=>(f.offset,i.size)) with
  | some z,some places=>(Jm z.cells.toList).bind fun zs=>(trP c (places.toArray[·]?) parts).bind fun ps=>some (.build zs ps)
  | _,_=>none
 | _,_=>none
def zgx (P:Program)(c:Cfg)(op:BinOp)(neg:Bool)(t:TypeId)(x y:Operand):Option POp:=
 match P.underlying t with
 | some .bool=>(trX c x).bind fun px=>(trX c y).bind fun py=>some (POp.eqB neg px py)
 | some (.slice _)=>match y with
  | .const (.slice none 0 0)=>(trX c x).bind fun px=>some (.eqNS neg px)
  | _=>none
 | some (.pointer _)=>match y with
  | .const (.pointer none)=>(trX c x).bind fun px=>some (.eqNP neg px)
  | _=>none
 | some (.int _)=>(trX c x).bind fun px=>(trX c y).bind fun py=>some (.bin op px py)
 | some .string=>(trX c x).bind fun px=>(trX c y).bind fun py=>some (.bin op px py)
 | some (.float _)=>(trX c x).bind fun px=>(trX c y).bind fun py=>some (.bin op px py)
 | some td=>if qh td=true∧P.eqGuardType P.depth t=false then (lay P 50 t).bind fun ks=>(trX c x).bind fun px=>(trX c y).bind fun py=>some (.eqA neg ks px py) else none
 | _=>none
def zeH (P:Program)(c:Cfg)(op:BinOp)(t:TypeId)(x y:Operand):Option POp:=
 match op with
 | .eql=>zgx P c op false t x y
 | .neq=>zgx P c op true t x y
 | _=>(trX c x).bind fun px=>(trX c y).bind fun py=>some (.bin op px py)
def zeI (P:Program)(u:TypeId):Bool:=match P.underlying u with | some (.slice _)=>true | some .string=>true | _=>false
def zcs (P : Program)(f : Nat) : Bool := match P.funcs[f]? with | some fn => !(fn.name == "runtime.NumGoroutine") && !fn.body.isNone | none => false
def zbz (P:Program)(c:Cfg)(o:Call):Option POp:=
 match o.callee,o.args.toList,o.argTypes.toList with
 | .builtin .len,[x],[t]=>
  match P.underlying t with
  | some .string=>(trX c x).map .lenS
  | some (.slice _)=>(trX c x).map .len
  | _=>none
 | .builtin .append,[x,y],[t,u]=>
  match P.underlying t with
  | some (.slice e)=>match P.info? e with
   | some i=>match i.zero with
    | some z=>if 0<i.size∧z.cells.size=i.size∧zeI P u=true then
      (trX c x).bind fun px=>(trX c y).bind fun py=>some (.append i.size i.bytes px py)
     else none
    | none=>none
   | none=>none
  | _=>none
 | .builtin .max,x::xs,_=>(trX c x).bind fun px=>(zbj c xs).map (.minmax true px)
 | .builtin .min,x::xs,_=>(trX c x).bind fun px=>(zbj c xs).map (.minmax false px)
 | .value (.func f),xs,_=>match c.ext f,xs with
  | some true,[x]=>(trX c x).map .bits
  | some false,[x]=>(trX c x).map .ofBits
  | _,_=>(c.fi f).bind fun p=>if c.fm p=f∧zcs P f=true then
   (if c.heapy p then (zbj c xs).map (.callH p) else (trA c xs (c.modes p)).map (.call p)) else none
 | .value x,xs,_=>(trX c x).bind fun px=>if (c.fns.all fun p=>zcs P (c.fm p))=true then (trA c xs []).map (.callV c.fns px) else none
 | _,_,_=>none
def zit (P:Program)(c:Cfg):Op→Option POp
 | .move x | .assign x=>(trX c x).map .mv
 | .pick a x y=>(trX c a).bind fun pa=>(trX c x).bind fun px=>(trX c y).bind fun py=>some (.pick pa px py)
 | .alloc e=>(zeroOf P e).map .alloc
 | .box e x=>(trX c x).bind fun px=>(P.info? e).map fun i=> .box i.size px
 | .build t parts=>UF P c t parts.toList
 | .buildSlice t n parts=>match P.underlying t with
  | some (.slice e)=>match P.info? e with
   | some i=>(zeroOf P e).bind fun zs=>if 0<i.size∧zs.length=i.size∧n*i.size≤16777216 then (trS c parts.toList).map (.buildSlice i.size n zs) else none
   | none=>none
  | _=>none
 | .load t x=>(shapeOf P t).bind fun s=>(trX c x).map (.load s.1 s.2)
 | .store t x y=>(P.info? t).bind fun i=>(trX c x).bind fun px=>(trX c y).map (.store i.size px)
 | .nilCheck x=>(trX c x).map .nilCheck
 | .binOp op t x y _=>zeH P c op t x y
 | .unOp op _ x=>(trX c x).map (.un op)
 | .convert s d x=>match P.underlying s,P.underlying d with
  | some (.slice e),some .string=>match P.underlying e with
   | some (.int .u8)=>(trX c x).map (.conv .bytesStr)
   | _=>none
  | some .string,some (.slice e)=>match P.underlying e with
   | some (.int .u8)=>(trX c x).map (.conv .strBytes)
   | _=>none
  | some (.slice e),some (.slice _)=>match P.underlying e with
   | some (.int .u8)=>if s=d then (trX c x).map .mark else none
   | _=>none
  | some (.int _),some (.int k)=>(trX c x).map (.conv (.toInt k))
  | some (.int _),some (.float .f64)=>(trX c x).map (.conv .toFlt)
  | _,_=>none
 | .makeSlice t x y=>match P.underlying t with
  | some (.slice e)=>match P.info? e with
   | some i=>(zeroOf P e).bind fun zs=>if 0<i.size∧zs.length=i.size then (trX c x).bind fun px=>(trX c y).map (.makeSlice i.size i.bytes zs px) else none
   | none=>none
  | _=>none
 | .slice t x lo hi none=>match P.underlying t with
  | some (.slice e)=>match P.info? e with
   | some i=>(trX c x).bind fun px=>(trO c lo).bind fun pl=>(trO c hi).map (.slice i.size px pl)
   | none=>none
  | some .string=>(trX c x).bind fun px=>(trO c lo).bind fun pl=>(trO c hi).map (.sliceS px pl)
  | _=>none
 | .fieldAddr s x f=>match P.underlying s with
  | some (.struct fs)=>match fs[f]? with
   | some fd=>match P.info? fd.type with
    | some i=>if 0<i.size then (trX c x).map (.fieldAddr fd.offset i.size) else none
    | none=>none
   | none=>none
  | _=>none
 | .field s x f=>match P.underlying s with
  | some (.struct fs)=>match fs[f]? with
   | some fd=>(shapeOf P fd.type).bind fun h=>(trX c x).map (.field h.1 fd.offset h.2)
   | none=>none
  | _=>none
 | .indexAddr t x i=>match P.underlying t with
  | some (.slice e)=>(P.info? e).bind fun it=>(trX c x).bind fun px=>(trX c i).map (.indexAddr it.size px)
  | some (.array n e)=>(P.info? e).bind fun it=>(trX c x).bind fun px=>(trX c i).map (.indexAddrA it.size n px)
  | _=>none
 | .index t x i=>match P.underlying t with
  | some (.array n e)=>(shapeOf P e).bind fun h=>(trX c x).bind fun px=>(trX c i).map (.index h.1 h.2 n px)
  | some .string=>(trX c x).bind fun px=>(trX c i).map (.indexS px)
  | _=>none
 | .extract x i=>(trX c x).map fun px=> .extract px i
 | .call o=>zbz P c o
 | _=>none
def zpg (P:Program)(t:TypeId):POp→Nat
 | .alloc _ | .box _ _ | .buildSlice _ _ _ _ | .makeSlice _ _ _ _ _ | .append _ _ _ _=>1
 | .call _ _=>match P.underlying t with
  | some (.tuple ts)=>ts.size
  | some (.slice _)=>1
  | _=>0
 | _=>0
def Q2 (i:Nat):List Edge→Option (List Nat)
 | []=>some []
 | e::es=>if Region.binds .any e then (if e.on<i then (Q2 i es).map fun l=>e.on::l else none) else Q2 i es
def zcD (ops:Array Oper):Option (Nat×Bool)→Option (Option (Nat×Bool))
 | none=>some none
 | some (j,b)=>((ops[j]?).bind (·.dst)).map fun t=>some (t,b)
def zis (P:Program)(c:Cfg)(draw:Bool)(ops:Array Oper)(i res:Nat)(o:Oper):Option PO:=
 (zit P c o.op).bind fun po=>(zcD ops o.guard).bind fun g=>(Q2 i o.after.toList).bind fun l=>
  some ⟨o.dst,po,g,if draw then l else [],res⟩
def trL (P:Program)(c:Cfg)(draw:Bool)(ops:Array Oper):Nat→Nat→List Oper→Option (List PO×Nat)
 | _,res,[]=>some ([],res)
 | i,res,o::l=>(zis P c draw ops i res o).bind fun p=>(trL P c draw ops (i+1) (res+zpg P o.type p.op) l).bind fun x=>some (p::x.1,x.2)
def JZ (p q:PO)(j:Nat):Bool:=
 q.after.contains j ||
 ((match p.dst with | some t => !q.uses.contains t && !(q.dst==some t) | none=>true)&&(match q.dst with | some t => !p.uses.contains t | none=>true))
def Xc (q:PO):List PO→Nat→Bool
 | [],_=>true
 | p::ps,j=>JZ p q j&&Xc q ps (j+1)
def Xd:List PO→List PO→Bool
 | _,[]=>true
 | pre,q::qs=>Xc q pre 0&&Xd (pre ++ [q]) qs
def YT (acc:List PO)(l:List Nat):List Nat:=(l++l.flatMap fun j=>(pAt acc j).after).eraseDups
def Ur:List PO→List PO→List PO
 | _,[]=> []
 | acc,p::ps=> { p with after:=YT acc p.after }::Ur (acc ++ [{ p with after:=YT acc p.after }]) ps
def trC (P:Program)(c:Cfg):Code→Option PC
 | .skip=>some .skip
 | .label _=>some .skip
 | .region _ ops draw=>(trL P c draw ops 0 0 ops.toList).bind fun x=>if draw then (if Xd [] (Ur [] x.1) then some (.region true x.2 (Ur [] x.1)) else none) else some (.region false x.2 x.1)
 | .seq x y=>(trC P c x).bind fun px=>(trC P c y).bind fun py=>some (.seq px py)
 | .cond a x y=>(trX c a).bind fun pa=>(trC P c x).bind fun px=>(trC P c y).bind fun py=>some (.cond pa px py)
 | .block id x=>(trC P c x).bind fun px=>some (.block id px)
 | .loop x=>(trC P c x).bind fun px=>some (.loop px)
 | .exit id=>some (.exit id)
 | .ret=>some .ret
 | _=>none
def zbk (P:Program):List ResultVar→Option (List PR)
 | []=>some []
 | .tmp t::rs=>(zbk P rs).bind fun ps=>some (.tmp t::ps)
 | .cell a t::rs=>(shapeOf P t).bind fun h=>(zbk P rs).bind fun ps=>some (.cell h.1 h.2 a::ps)
def trF (P:Program)(c:Cfg)(fn:Func):Option PF:=
 match fn.body with
 | some b=>(trC P c b).bind fun pb=>(zbk P fn.results.toList).bind fun rs=>some ⟨fn.ntmps,rs,pb,none⟩
 | none=>none
section
variable {P:Program} {c:Cfg}
theorem zcC {v:Value}{d:D}(h:zgw v=some d):y7 c.fm v d∧v.oneCell'=true:=by
 unfold zgw at h;split at h<;>first | (injection h with h;subst h) | (cases h)
 ·exact ⟨fun _ _=> .bool _,rfl⟩
 ·exact ⟨fun _ _=> .int _ _,rfl⟩
 ·exact ⟨fun _ _=> .flt _ _ rfl,rfl⟩
 ·rename_i s;refine ⟨fun _ _=> ?_,rfl⟩
  have:s=⟨s.data.toList.toArray⟩:=by cases s;simp
  rw [this];exact .str _
 ·exact ⟨fun _ _=> .nil,rfl⟩
 ·exact ⟨fun _ _=> .nilp,rfl⟩
theorem ZZ: ∀ {vs:List Value} {ds:List D},Jm vs=some ds→CR (y7 c.fm) vs ds
 | [],ds,h=>by
  simp only [Jm,Option.some.injEq] at h;subst h;exact ⟨rfl,by simp⟩
 | v::vs,ds,h=>by
  simp only [Jm,Option.bind_eq_some_iff,Option.some.injEq] at h;obtain ⟨d,h1,ds',h2,rfl⟩:=h
  obtain ⟨k1,k2⟩:=ZZ h2
  obtain ⟨g1,g2⟩:=zcC (c:=c) h1
  refine ⟨by simp [k1],fun j e hj=> ?_⟩
  cases j with
  | zero=>simp at hj;subst hj;exact ⟨v,rfl,g2,g1⟩
  | succ j=>
   obtain ⟨u,a1,a2,a3⟩:=k2 j e (by simpa using hj)
   exact ⟨u,by simpa using a1,a2,a3⟩
theorem zgV {v:Value}{d:D}(h:zir v=some d):y7 c.fm v d:=by
 unfold zir at h;split at h
 ·rename_i cs;simp only [Option.map_eq_some_iff] at h;obtain ⟨ds,h1,rfl⟩:=h
  have:=ZZ (c:=c) h1
  intro ok w;have h2:=Yg (fm:=c.fm) (ok:=ok) (w:=w) cs.toList (this.mono (fun v d h=>h ok w))
  simpa using h2
 ·exact (zcC h).1
theorem zn {x:Operand}{p:PX}(h:trX c x=some p):TrX c.fm x p:=by
 unfold trX at h;split at h
 ·injection h with h;subst h;exact .tmp _
 ·simp only [Option.map_eq_some_iff] at h;obtain ⟨d,h1,rfl⟩:=h
  exact .const _ _ (zgV h1)
 ·simp only [Option.bind_eq_some_iff] at h;obtain ⟨p',h1,h2⟩:=h
  split at h2
  ·rename_i e;injection h2 with h2;subst h2;exact .func _ _ e
  ·cases h2
 ·cases h
theorem JS: ∀ {xs:List Operand} {ps:List PX},zbj c xs=some ps→zab c.fm xs ps
 | [],ps,h=>by simp only [zbj,Option.some.injEq] at h;subst h;exact .nil
 | x::xs,ps,h=>by
  simp only [zbj,Option.bind_eq_some_iff,Option.some.injEq] at h;obtain ⟨p,h1,ps',h2,rfl⟩:=h
  exact .cons (zn h1) (JS h2)
theorem zbA: ∀ {xs:List Operand} {ms:List Nat} {ps:List (Nat×PX)},trA c xs ms=some ps→TrA c.fm xs ps
 | [],ms,ps,h=>by simp only [trA,Option.some.injEq] at h;subst h;exact .nil
 | x::xs,ms,ps,h=>by
  simp only [trA,Option.bind_eq_some_iff,Option.some.injEq] at h;obtain ⟨p,h1,ps',h2,rfl⟩:=h
  exact .cons (zn h1) (zbA h2)
theorem zeZ: ∀ {xs:List (Nat×Operand)} {ps:List (Nat×PX)},trS c xs=some ps→TrS c.fm xs ps
 | [],ps,h=>by simp only [trS,Option.some.injEq] at h;subst h;exact .nil
 | (i,x)::xs,ps,h=>by
  simp only [trS,Option.bind_eq_some_iff,Option.some.injEq] at h;obtain ⟨p,h1,ps',h2,rfl⟩:=h
  exact .cons (zn h1) (zeZ h2)
theorem V5 {x:Option Operand}{p:Option PX}(h:trO c x=some p):TrO c.fm x p:=by
 cases x with
 | none=>simp only [trO,Option.some.injEq] at h;subst h;exact .none
 | some x=>
  simp only [trO,Option.map_eq_some_iff] at h;obtain ⟨q,h1,rfl⟩:=h
  exact .some (zn h1)
theorem zbx {pl:Nat→Option (Nat×Nat)}: ∀ {xs:List (Nat×Operand)} {ps:List (Nat×Nat×PX)},trP c pl xs=some ps→TrP c.fm pl xs ps
 | [],ps,h=>by simp only [trP,Option.some.injEq] at h;subst h;exact .nil
 | (i,x)::xs,ps,h=>by
  simp only [trP,Option.bind_eq_some_iff,Option.some.injEq] at h;obtain ⟨q,h0,p,h1,ps',h2,rfl⟩:=h
  exact .cons h0 (zn h1) (zbx h2)
theorem Zs {t:TypeId}{s:Bool×Nat}(h:shapeOf P t=some s):Shape P t s.1 s.2:=by
 unfold shapeOf at h;split at h
 ·rename_i d i h1 h2;injection h with h;subst h;exact ⟨d,i,h1,rfl,h2,rfl⟩
 ·cases h
theorem Q6 {t:TypeId}{zs:List D}(h:zeroOf P t=some zs): ∃i z,P.info? t=some i∧i.zero=some z∧CR (y7 c.fm) z.cells.toList zs:=by
 unfold zeroOf at h;split at h
 ·rename_i i h1;split at h
  ·rename_i z h2;exact ⟨i,z,h1,h2,ZZ h⟩
  ·cases h
 ·cases h
theorem zbV {t:TypeId}{parts:Array (Nat×Operand)}{po:POp}(h:UF P c t parts.toList=some po):TrOp P c.fm (.build t parts) po:=by
 unfold UF at h;split at h
 ·rename_i it n e h1 h2;split at h
  ·rename_i z ie h3 h4;simp only [Option.bind_eq_some_iff,Option.some.injEq] at h;obtain ⟨zs,h5,ps,h6,rfl⟩:=h
   exact .build (fun l=>by simp only [Program.built,h1,h2,h3,h4]) (ZZ h5) (zbx h6)
  ·cases h
 ·rename_i it fields h1 h2;split at h
  ·rename_i z places h3 h4;simp only [Option.bind_eq_some_iff,Option.some.injEq] at h;obtain ⟨zs,h5,ps,h6,rfl⟩:=h
   exact .build (fun l=>by simp only [Program.built,h1,h2,h3,h4]) (ZZ h5) (zbx h6)
  ·cases h
 ·cases h
theorem zcE {op:BinOp}{neg:Bool}{t u:TypeId}{x y:Operand}{po:POp}(hop:op=(if neg then .neq else .eql))(h:zgx P c op neg t x y=some po) :
  TrOp P c.fm (.binOp op t x y u) po:=by
 unfold zgx at h;split at h
 ·rename_i ht;simp only [Option.bind_eq_some_iff,Option.some.injEq] at h;obtain ⟨px,h1,py,h2,rfl⟩:=h
  rw [hop];exact .eqB ht (zn h1) (zn h2)
 ·rename_i e ht;split at h
  ·simp only [Option.bind_eq_some_iff,Option.some.injEq] at h;obtain ⟨px,h1,rfl⟩:=h
   rw [hop];exact .eqNs ht (zn h1)
  ·cases h
 ·rename_i e ht;split at h
  ·simp only [Option.bind_eq_some_iff,Option.some.injEq] at h;obtain ⟨px,h1,rfl⟩:=h
   rw [hop];exact .eqNp ht (zn h1)
  ·cases h
 ·simp only [Option.bind_eq_some_iff,Option.some.injEq] at h;obtain ⟨px,h1,py,h2,rfl⟩:=h
  exact .bin (zn h1) (zn h2)
 ·simp only [Option.bind_eq_some_iff,Option.some.injEq] at h;obtain ⟨px,h1,py,h2,rfl⟩:=h
  exact .bin (zn h1) (zn h2)
 ·simp only [Option.bind_eq_some_iff,Option.some.injEq] at h;obtain ⟨px,h1,py,h2,rfl⟩:=h
  exact .bin (zn h1) (zn h2)
 ·rename_i td _ _ _ _ _ _ ht;split at h
  ·rename_i hc;simp only [Option.bind_eq_some_iff,Option.some.injEq] at h;obtain ⟨ks,h0,px,h1,py,h2,rfl⟩:=h
   rw [hop];exact .eqA ht hc.1 hc.2 h0 (by decide) (zn h1) (zn h2)
  ·cases h
 ·cases h
theorem zfH {op:BinOp}{t u:TypeId}{x y:Operand}{po:POp}(h:zeH P c op t x y=some po):TrOp P c.fm (.binOp op t x y u) po:=by
 unfold zeH at h;split at h
 ·exact zcE (neg:=false) rfl h
 ·exact zcE (neg:=true) rfl h
 ·simp only [Option.bind_eq_some_iff,Option.some.injEq] at h;obtain ⟨px,h1,py,h2,rfl⟩:=h
  exact .bin (zn h1) (zn h2)
theorem zfL {u:TypeId}(h:zeI P u=true):(∃e,P.underlying u=some (.slice e))∨P.underlying u=some .string:=by
 unfold zeI at h;split at h
 ·exact .inl ⟨_,by assumption⟩
 ·exact .inr (by assumption)
 ·cases h
theorem zaR {f:Nat}(h:zcs P f=true):V0 P f:=by
 unfold zcs at h;split at h
 ·rename_i fn hfn;simp only [Bool.and_eq_true,Bool.not_eq_true'] at h;exact ⟨fn,hfn,h.1,h.2⟩
 ·cases h
theorem zdy (hext: ∀f b,c.ext f=some b→jb P f b){o:Call}{po:POp}(h:zbz P c o=some po):TrAct P c.fm (.call o) po:=by
 obtain ⟨callee,args,argTypes⟩:=o
 unfold zbz at h;split at h
 ·rename_i x t e1 e2 e3;simp only at e1 e2 e3
  subst e1;have ha:args = #[x]:=by cases args;simp at e2;simp [e2]
  have hat:argTypes = #[t]:=by cases argTypes;simp at e3;simp [e3]
  subst ha;subst hat;split at h
  ·rename_i ht;simp only [Option.map_eq_some_iff] at h;obtain ⟨px,h1,rfl⟩:=h
   exact .op (.lenS ht (zn h1))
  ·rename_i e ht;simp only [Option.map_eq_some_iff] at h;obtain ⟨px,h1,rfl⟩:=h
   exact .op (.lenR ht (zn h1))
  ·cases h
 ·rename_i x y t u e1 e2 e3;simp only at e1 e2 e3
  subst e1;have ha:args = #[x,y]:=by cases args;simp at e2;simp [e2]
  have hat:argTypes = #[t,u]:=by cases argTypes;simp at e3;simp [e3]
  subst ha;subst hat;split at h
  ·rename_i e ht;split at h
   ·rename_i i hi;split at h
    ·rename_i z hz;split at h
     ·rename_i hc;obtain ⟨c1,c2,c3⟩:=hc
      simp only [Option.bind_eq_some_iff,Option.some.injEq] at h;obtain ⟨px,h1,py,h2,rfl⟩:=h
      exact .op (.append ht (zfL c3) hi hz rfl c2 rfl c1 (zn h1) (zn h2))
     ·cases h
    ·cases h
   ·cases h
  ·cases h
 ·rename_i x xs e1 e2;simp only at e1 e2
  subst e1;have ha:args=(x::xs).toArray:=by cases args;simp at e2;simp [e2]
  subst ha;simp only [Option.bind_eq_some_iff,Option.map_eq_some_iff] at h;obtain ⟨px,h1,ps,h2,rfl⟩:=h
  exact .op (.minmax (mx:=true) (zn h1) (JS h2))
 ·rename_i x xs e1 e2;simp only at e1 e2
  subst e1;have ha:args=(x::xs).toArray:=by cases args;simp at e2;simp [e2]
  subst ha;simp only [Option.bind_eq_some_iff,Option.map_eq_some_iff] at h;obtain ⟨px,h1,ps,h2,rfl⟩:=h
  exact .op (.minmax (mx:=false) (zn h1) (JS h2))
 ·rename_i f e1;simp only at e1
  subst e1;split at h
  ·rename_i x hx1 hx2;have ha:args = #[x]:=by cases args;simp at hx2;simp [hx2]
   subst ha;simp only [Option.map_eq_some_iff] at h;obtain ⟨px,h1,rfl⟩:=h
   exact .op (.bits (hext _ _ hx1) (zn h1))
  ·rename_i x hx1 hx2;have ha:args = #[x]:=by cases args;simp at hx2;simp [hx2]
   subst ha;simp only [Option.map_eq_some_iff] at h;obtain ⟨px,h1,rfl⟩:=h
   exact .op (.ofBits (hext _ _ hx1) (zn h1))
  ·simp only [Option.bind_eq_some_iff] at h;obtain ⟨p,h1,h2⟩:=h
   split at h2
   ·rename_i hc;obtain ⟨c1,c2⟩:=hc
    subst c1;have hf:V0 P (c.fm p):=zaR c2
    have ha:args=args.toList.toArray:=by simp
    rw [ha];split at h2
    ·simp only [Option.map_eq_some_iff] at h2;obtain ⟨qs,h3,rfl⟩:=h2
     exact .callH (JS h3) hf
    ·simp only [Option.map_eq_some_iff] at h2;obtain ⟨qs,h3,rfl⟩:=h2
     exact .call (zbA h3) hf
   ·cases h2
 ·rename_i x e0 e1;simp only at e1
  subst e1;simp only [Option.bind_eq_some_iff] at h;obtain ⟨px,h1,h2⟩:=h
  split at h2
  ·rename_i hc;simp only [Option.map_eq_some_iff] at h2;obtain ⟨qs,h3,rfl⟩:=h2
   have ha:args=args.toList.toArray:=by simp
   rw [ha];rw [List.all_eq_true] at hc;exact .callV (zn h1) (zbA h3) (fun f hf=>zaR (hc f hf))
  ·cases h2
 ·cases h
theorem zgX (hext: ∀f b,c.ext f=some b→jb P f b){op:Op}{po:POp}(h:zit P c op=some po):TrAct P c.fm op po:=by
 unfold zit at h;split at h
 ·simp only [Option.map_eq_some_iff] at h;obtain ⟨px,h1,rfl⟩:=h
  exact .op (.move (zn h1))
 ·simp only [Option.map_eq_some_iff] at h;obtain ⟨px,h1,rfl⟩:=h
  exact .op (.assign (zn h1))
 ·simp only [Option.bind_eq_some_iff,Option.some.injEq] at h;obtain ⟨pa,h1,px,h2,py,h3,rfl⟩:=h
  exact .op (.pick (zn h1) (zn h2) (zn h3))
 ·simp only [Option.map_eq_some_iff] at h;obtain ⟨zs,h1,rfl⟩:=h
  obtain ⟨i,z,k1,k2,k3⟩:=Q6 (c:=c) h1
  exact .op (.alloc k1 k2 k3)
 ·simp only [Option.bind_eq_some_iff,Option.map_eq_some_iff] at h;obtain ⟨px,h1,i,h2,rfl⟩:=h
  exact .op (.box (zn h1))
 ·exact .op (zbV h)
 ·split at h
  ·rename_i e ht;split at h
   ·rename_i i hi;simp only [Option.bind_eq_some_iff] at h;obtain ⟨zs,h1,h2⟩:=h
    split at h2
    ·rename_i hc;obtain ⟨c1,c2,c3⟩:=hc
     simp only [Option.map_eq_some_iff] at h2;obtain ⟨qs,h3,rfl⟩:=h2
     obtain ⟨i',z,k1,k2,k3⟩:=Q6 (c:=c) h1
     rw [hi] at k1;injection k1 with k1;subst k1;exact .op (.buildSlice ht hi k2 rfl c1 k3 c2 c3 (zeZ h3))
    ·cases h2
   ·cases h
  ·cases h
 ·simp only [Option.bind_eq_some_iff,Option.map_eq_some_iff] at h;obtain ⟨s,h1,px,h2,rfl⟩:=h
  exact .op (.load (Zs h1) (zn h2))
 ·simp only [Option.bind_eq_some_iff,Option.map_eq_some_iff] at h;obtain ⟨i,h1,px,h2,py,h3,rfl⟩:=h
  exact .op (.store (by rw [h1];rfl) (zn h2) (zn h3))
 ·simp only [Option.map_eq_some_iff] at h;obtain ⟨px,h1,rfl⟩:=h
  exact .op (.nilCheck (zn h1))
 ·exact .op (zfH h)
 ·simp only [Option.map_eq_some_iff] at h;obtain ⟨px,h1,rfl⟩:=h
  exact .op (.un (zn h1))
 ·split at h
  ·rename_i e hs hd;split at h
   ·rename_i he;simp only [Option.map_eq_some_iff] at h;obtain ⟨px,h1,rfl⟩:=h
    exact .op (.convBS hs he hd (zn h1))
   ·cases h
  ·rename_i e hs hd;split at h
   ·rename_i he;simp only [Option.map_eq_some_iff] at h;obtain ⟨px,h1,rfl⟩:=h
    exact .op (.convSB hs hd he (zn h1))
   ·cases h
  ·rename_i e e' hs hd;split at h
   ·rename_i he;split at h
    ·rename_i hsd;subst hsd;simp only [Option.map_eq_some_iff] at h;obtain ⟨px,h1,rfl⟩:=h
     exact .op (.mark hs he (zn h1))
    ·cases h
   ·cases h
  ·rename_i k1 k2 hs hd;simp only [Option.map_eq_some_iff] at h;obtain ⟨px,h1,rfl⟩:=h
   exact .op (.convInt (by rw [hs];rfl) hd (zn h1))
  ·rename_i k1 hs hd;simp only [Option.map_eq_some_iff] at h;obtain ⟨px,h1,rfl⟩:=h
   exact .op (.toFlt (by rw [hs];rfl) hd (zn h1))
  ·cases h
 ·split at h
  ·rename_i e ht;split at h
   ·rename_i i hi;simp only [Option.bind_eq_some_iff] at h;obtain ⟨zs,h1,h2⟩:=h
    split at h2
    ·rename_i hc;obtain ⟨c1,c2⟩:=hc
     simp only [Option.bind_eq_some_iff,Option.map_eq_some_iff] at h2;obtain ⟨px,h3,py,h4,rfl⟩:=h2
     obtain ⟨i',z,k1,k2,k3⟩:=Q6 (c:=c) h1
     rw [hi] at k1;injection k1 with k1;subst k1;exact .op (.makeSlice ht hi k2 rfl rfl c1 k3 c2 (zn h3) (zn h4))
    ·cases h2
   ·cases h
  ·cases h
 ·split at h
  ·rename_i e ht;split at h
   ·rename_i i hi;simp only [Option.bind_eq_some_iff,Option.map_eq_some_iff] at h;obtain ⟨px,h1,pl,h2,ph,h3,rfl⟩:=h
    exact .op (.slice ht hi rfl (zn h1) (V5 h2) (V5 h3))
   ·cases h
  ·rename_i ht;simp only [Option.bind_eq_some_iff,Option.map_eq_some_iff] at h;obtain ⟨px,h1,pl,h2,ph,h3,rfl⟩:=h
   exact .op (.sliceS ht (zn h1) (V5 h2) (V5 h3))
  ·cases h
 ·split at h
  ·rename_i fs ht;split at h
   ·rename_i fd hf;split at h
    ·rename_i i hi;split at h
     ·rename_i h0;simp only [Option.map_eq_some_iff] at h;obtain ⟨px,h1,rfl⟩:=h
      exact .op (.fieldAddr ht hf rfl (by rw [hi];rfl) h0 (zn h1))
     ·cases h
    ·cases h
   ·cases h
  ·cases h
 ·split at h
  ·rename_i fs ht;split at h
   ·rename_i fd hf;simp only [Option.bind_eq_some_iff,Option.map_eq_some_iff] at h;obtain ⟨s,h1,px,h2,rfl⟩:=h
    exact .op (.field ht hf rfl (Zs h1) (zn h2))
   ·cases h
  ·cases h
 ·split at h
  ·rename_i e ht;simp only [Option.bind_eq_some_iff,Option.map_eq_some_iff] at h;obtain ⟨i,h1,px,h2,pi,h3,rfl⟩:=h
   exact .op (.indexAddr ht (by rw [h1];rfl) (zn h2) (zn h3))
  ·rename_i n e ht;simp only [Option.bind_eq_some_iff,Option.map_eq_some_iff] at h;obtain ⟨i,h1,px,h2,pi,h3,rfl⟩:=h
   exact .op (.indexAddrA ht (by rw [h1];rfl) (zn h2) (zn h3))
  ·cases h
 ·split at h
  ·rename_i n e ht;simp only [Option.bind_eq_some_iff,Option.map_eq_some_iff] at h;obtain ⟨s,h1,px,h2,pi,h3,rfl⟩:=h
   exact .op (.index ht (Zs h1) (zn h2) (zn h3))
  ·rename_i ht;simp only [Option.bind_eq_some_iff,Option.map_eq_some_iff] at h;obtain ⟨px,h2,pi,h3,rfl⟩:=h
   exact .op (.indexS ht (zn h2) (zn h3))
  ·cases h
 ·simp only [Option.map_eq_some_iff] at h;obtain ⟨px,h1,rfl⟩:=h
  exact .op (.extract (zn h1))
 ·exact zdy hext h
 ·cases h
theorem Jk: ∀ {es:List Edge} {i:Nat} {l:List Nat},Q2 i es=some l→(∀k∈l, ∃e∈es,e.on=k∧Region.binds .any e=true)∧ ∀e∈es,Region.binds .any e=true→e.on<i
 | [],i,l,h=>by simp only [Q2,Option.some.injEq] at h;subst h;simp
 | e::es,i,l,h=>by
  simp only [Q2] at h;split at h
  ·rename_i hb;split at h
   ·rename_i hlt;simp only [Option.map_eq_some_iff] at h;obtain ⟨l',h1,rfl⟩:=h
    obtain ⟨k1,k2⟩:=Jk h1
    refine ⟨fun k hk=> ?_,fun e' he' hb'=> ?_⟩
    ·simp only [List.mem_cons] at hk;rcases hk with rfl | hk
     ·exact ⟨e,by simp,rfl,hb⟩
     ·obtain ⟨e',a1,a2,a3⟩:=k1 k hk
      exact ⟨e',by simp [a1],a2,a3⟩
    ·simp only [List.mem_cons] at he';rcases he' with rfl | he'
     ·exact hlt
     ·exact k2 e' he' hb'
   ·cases h
  ·rename_i hb;obtain ⟨k1,k2⟩:=Jk h
   refine ⟨fun k hk=> ?_,fun e' he' hb'=> ?_⟩
   ·obtain ⟨e',a1,a2,a3⟩:=k1 k hk
    exact ⟨e',by simp [a1],a2,a3⟩
   ·simp only [List.mem_cons] at he';rcases he' with rfl | he'
    ·exact absurd hb' hb
    ·exact k2 e' he' hb'
theorem zgW (hext: ∀f b,c.ext f=some b→jb P f b){draw:Bool}{ops:Array Oper}{i res:Nat}{o:Oper}{p:PO}(h:zis P c draw ops i res o=some p)(ho:ops[i]? = some o):zew P c.fm ops i o p:=by
 unfold zis at h;simp only [Option.bind_eq_some_iff,Option.some.injEq] at h;obtain ⟨po,h1,g,h2,l,h3,rfl⟩:=h
 obtain ⟨k1,k2⟩:=Jk h3
 refine ⟨rfl,zgX hext h1,?_,fun k hk=> ?_,k2⟩
 ·unfold zcD at h2;split at h2
  ·rename_i hg;injection h2 with h2;subst h2;exact .inl ⟨hg,rfl⟩
  ·rename_i j b hg;simp only [Option.map_eq_some_iff] at h2;obtain ⟨t,h4,rfl⟩:=h2
   exact .inr ⟨j,b,t,hg,rfl,h4⟩
 ·cases draw
  ·cases hk
  ·obtain ⟨e,he,rfl,hb⟩:=k1 k hk
   exact .one ho he hb
theorem zby (hext: ∀f b,c.ext f=some b→jb P f b){draw:Bool}{ops:Array Oper}: ∀ {l:List Oper} {i res:Nat} {x:List PO×Nat},(∀k o,l[k]? = some o→ops[i+k]? = some o)→trL P c draw ops i res l=some x→TrL P c.fm ops i l x.1
 | [],i,res,x,_,h=>by simp only [trL,Option.some.injEq] at h;subst h;exact .nil
 | o::l,i,res,x,hl,h=>by
  simp only [trL,Option.bind_eq_some_iff,Option.some.injEq] at h;obtain ⟨p,h1,y,h2,rfl⟩:=h
  refine .cons (zgW hext h1 (hl 0 o rfl)) (zby hext (fun k o' hk=> ?_) h2)
  have:=hl (k+1) o' (by simpa using hk)
  rwa [show i+1+k=i+(k+1) by omega]
theorem VO {fm:Nat→Nat}{ops:Array Oper}: ∀ {l:List Oper} {ps acc:List PO} {i:Nat},acc.length=i→(∀j,j<i→ ∀k∈(pAt acc j).after,Reach ops k j)→TrL P fm ops i l ps→TrL P fm ops i l (Ur acc ps)
 | [],[],acc,i,_,_,.nil=> .nil
 | o::l,p::ps,acc,i,hi,ha,.cons h hs=>by
  have hp: ∀k∈YT acc p.after,Reach ops k i:=by
   intro k hk;unfold YT at hk;rw [List.mem_eraseDups,List.mem_append,List.mem_flatMap] at hk;rcases hk with hk | ⟨j,hj,hk⟩
   ·exact h.after k hk
   ·by_cases hji:j<i
    ·exact .trans (ha j hji k hk) (h.after j hj)
    ·exfalso
     unfold pAt at hk;rw [List.getD_eq_getElem?_getD,List.getElem?_eq_none (by omega)] at hk
     cases hk
  refine .cons ⟨h.dst,h.op,h.guard,hp,h.lt⟩ (VO (i:=i+1) (by simp [hi]) (fun j hj k hk=> ?_) hs)
  by_cases e:j=i
  ·subst e;have:pAt (acc ++ [{ p with after:=YT acc p.after }]) j= { p with after:=YT acc p.after }:=by unfold pAt;simp [←hi]
   rw [this] at hk;exact hp k hk
  ·have:pAt (acc ++ [{ p with after:=YT acc p.after }]) j=pAt acc j:=by
    unfold pAt;rw [List.getD_eq_getElem?_getD,List.getD_eq_getElem?_getD,List.getElem?_append_left (by omega)]
   rw [this] at hk;exact ha j (by omega) k hk
theorem zbY {p q:PO}{j:Nat}(h:JZ p q j=true)(hc:(∃t,p.dst=some t∧(t∈q.uses∨q.dst=some t))∨(∃t,q.dst=some t∧t∈p.uses)):j∈q.after:=by
 unfold JZ at h;simp only [Bool.or_eq_true,List.contains_eq_mem,decide_eq_true_eq,Bool.and_eq_true] at h;rcases h with h | ⟨h1,h2⟩
 ·exact h
 ·exfalso
  rcases hc with ⟨t,e,hu | hu⟩ | ⟨t,e,hu⟩
  ·rw [e] at h1;simp [hu] at h1
  ·rw [e] at h1;simp [hu] at h1
  ·rw [e] at h2;simp [hu] at h2
theorem X9 {q:PO}: ∀ {pre:List PO} {j:Nat},Xc q pre j=true→ ∀k p,pre[k]? = some p→JZ p q (j+k)=true
 | [],j,_,k,p,h=>by simp at h
 | p0::pre,j,h,k,p,hk=>by
  simp only [Xc,Bool.and_eq_true] at h
  cases k with
  | zero=>simp at hk;subst hk;exact h.1
  | succ k=>
   have:=X9 h.2 k p (by simpa using hk)
   rw [show j+(k+1)=j+1+k by omega];exact this
theorem Va: ∀ {qs pre:List PO},Xd pre qs=true→ ∀j k,j<k→pre.length≤k→k<(pre++qs).length→((∃t,(pAt (pre++qs) j).dst=some t∧(t∈(pAt (pre++qs) k).uses∨(pAt (pre++qs) k).dst=some t)) ∨
  (∃t,(pAt (pre++qs) k).dst=some t∧t∈(pAt (pre++qs) j).uses))→j∈(pAt (pre++qs) k).after
 | [],pre,_,j,k,h1,h2,h3,_=>by simp at h3;omega
 | q::qs,pre,h,j,k,h1,h2,h3,hc=>by
  simp only [Xd,Bool.and_eq_true] at h;by_cases e:k=pre.length
  ·subst e;have hq:pAt (pre++q::qs) pre.length=q:=by simp [pAt]
   have hp:pAt (pre++q::qs) j=pAt pre j:=by
    unfold pAt;rw [List.getD_eq_getElem?_getD,List.getD_eq_getElem?_getD,List.getElem?_append_left h1]
   rw [hq,hp] at hc;rw [hq];have hj:pre[j]? = some (pAt pre j):=by unfold pAt;rw [List.getD_eq_getElem?_getD,List.getElem?_eq_getElem h1];rfl
   have:=X9 h.1 j _ hj
   rw [Nat.zero_add] at this;exact zbY this hc
  ·have ha:pre++q::qs=(pre ++ [q])++qs:=by simp
   rw [ha] at h3 hc ⊢
   exact Va h.2 j k h1 (by simp;omega) h3 hc
theorem zjj (hext: ∀f b,c.ext f=some b→jb P f b): ∀ {x:Code} {p:PC},trC P c x=some p→TrC P c.fm x p:=by
 intro x;induction x with
 | skip=>intro p h;simp only [trC,Option.some.injEq] at h;subst h;exact .skip
 | label l=>intro p h;simp only [trC,Option.some.injEq] at h;subst h;exact .label l
 | region id ops draw=>
  intro p h;simp only [trC,Option.bind_eq_some_iff] at h;obtain ⟨x,h1,h2⟩:=h
  split at h2
  ·rename_i hd;subst hd;split at h2
   ·rename_i hall;simp only [Option.some.injEq] at h2;subst h2;refine .regionD (VO (ps:=x.1) rfl (fun j hj=>by omega) (zby hext (fun k o hk=>by rw [Nat.zero_add,←Array.getElem?_toList];exact hk) h1)) (fun j k hjk hk hc=> ?_)
    have:=Va hall j k hjk (Nat.zero_le _) (by simpa using hk) (by simpa using hc)
    simpa using this
   ·cases h2
  ·rename_i hd;have hd':draw=false:=by simpa using hd
   subst hd';simp only [Option.some.injEq] at h2;subst h2;exact .region (zby hext (fun k o hk=>by rw [Nat.zero_add,←Array.getElem?_toList];exact hk) h1)
 | seq x y ihx ihy=>
  intro p h;simp only [trC,Option.bind_eq_some_iff,Option.some.injEq] at h;obtain ⟨px,h1,py,h2,rfl⟩:=h
  exact .seq (ihx h1) (ihy h2)
 | cond a x y ihx ihy=>
  intro p h;simp only [trC,Option.bind_eq_some_iff,Option.some.injEq] at h;obtain ⟨pa,h0,px,h1,py,h2,rfl⟩:=h
  exact .cond (zn h0) (ihx h1) (ihy h2)
 | block id x ih=>
  intro p h;simp only [trC,Option.bind_eq_some_iff,Option.some.injEq] at h;obtain ⟨px,h1,rfl⟩:=h
  exact .block (ih h1)
 | loop x ih=>
  intro p h;simp only [trC,Option.bind_eq_some_iff,Option.some.injEq] at h;obtain ⟨px,h1,rfl⟩:=h
  exact .loop (ih h1)
 | exit id=>intro p h;simp only [trC,Option.some.injEq] at h;subst h;exact .exit id
 | ret=>intro p h;simp only [trC,Option.some.injEq] at h;subst h;exact .ret
 | _=>intro p h;simp [trC] at h
theorem UD: ∀ {rs:List ResultVar} {ps:List PR},zbk P rs=some ps→TrR P rs ps
 | [],ps,h=>by simp only [zbk,Option.some.injEq] at h;subst h;exact .nil
 | .tmp t::rs,ps,h=>by
  simp only [zbk,Option.bind_eq_some_iff,Option.some.injEq] at h;obtain ⟨ps',h1,rfl⟩:=h
  exact .tmp (UD h1)
 | .cell a t::rs,ps,h=>by
  simp only [zbk,Option.bind_eq_some_iff,Option.some.injEq] at h;obtain ⟨s,h0,ps',h1,rfl⟩:=h
  exact .cell (Zs h0) (UD h1)
theorem zji (hext: ∀f b,c.ext f=some b→jb P f b){fn:Func}{pf:PF}(h:trF P c fn=some pf):TrF P c.fm fn pf:=by
 unfold trF at h;split at h
 ·rename_i b hb;simp only [Option.bind_eq_some_iff,Option.some.injEq] at h;obtain ⟨pb,h1,rs,h2,rfl⟩:=h
  exact ⟨⟨b,hb,zjj hext h1⟩,rfl,UD h2,rfl⟩
 ·cases h
end
def Zk (c c':zy):Prop:= ∀f a H x,c f a H=some x→c' f a H=some x
theorem Yy {α β:Type}{f g:α→Eff β}{H:zf}: ∀ {e:Eff α} {x:α},e.run H=some x→f x=g x →
  (e.bind f).run H=(e.bind g).run H∧(e.bind f).rd H=(e.bind g).rd H∧(e.bind f).lv H=(e.bind g).lv H
 | .pure a,x,h,hf=>by simp only [Eff.run,Option.some.injEq] at h;subst h;simp [Eff.bind,hf]
 | .fail,x,h,hf=>by simp [Eff.run] at h
 | .get id k,x,h,hf=>by
  simp only [Eff.run] at h;split at h
  ·rename_i sz es lv hh;have:=Yy (e:=k sz es) h hf
   simp only [Eff.bind,Eff.run,Eff.rd,Eff.lv,hh];exact ⟨this.1,by rw [this.2.1],this.2.2⟩
  ·cases h
 | .live id k,x,h,hf=>by
  simp only [Eff.run] at h;split at h
  ·rename_i sz es hh;have:=Yy (e:=k) h hf
   simp only [Eff.bind,Eff.run,Eff.rd,Eff.lv,hh];exact ⟨this.1,this.2.1,by rw [this.2.2]⟩
  ·cases h
 | .new id k,x,h,hf=>by
  simp only [Eff.run] at h;split at h
  ·split at h
   ·rename_i hh;have:=Yy (e:=k) h hf
    rename_i h1 _;simp only [Eff.bind,Eff.run,Eff.rd,Eff.lv,hh,h1,if_true];exact ⟨this.1,this.2.1,by rw [this.2.2]⟩
   ·cases h
  ·cases h
theorem ze {α β:Type}{f:α→Eff β}{H:zf}: ∀(e:Eff α),(e.bind f).run H=(e.run H).bind fun x=>(f x).run H
 | .pure a=>rfl
 | .fail=>rfl
 | .get id k=>by
  simp only [Eff.bind,Eff.run];split
  ·exact ze _
  ·rfl
 | .live id k=>by
  simp only [Eff.bind,Eff.run];split
  ·exact ze _
  ·rfl
 | .new id k=>by
  simp only [Eff.bind,Eff.run];split
  ·split
   ·exact ze _
   ·rfl
  ·rfl
theorem Zm {α β:Type}{f:α→Eff β}{H:zf}: ∀ {e:Eff α} {x:α},e.run H=some x→(e.bind f).rd H=e.rd H++(f x).rd H
 | .pure a,x,h=>by simp only [Eff.run,Option.some.injEq] at h;subst h;rfl
 | .fail,x,h=>by simp [Eff.run] at h
 | .get id k,x,h=>by
  simp only [Eff.run] at h;split at h
  ·rename_i sz es lv hh;simp only [Eff.bind,Eff.rd,hh];rw [Zm h];rfl
  ·cases h
 | .live id k,x,h=>by
  simp only [Eff.run] at h;split at h
  ·simp only [Eff.bind,Eff.rd];exact Zm h
  ·cases h
 | .new id k,x,h=>by
  simp only [Eff.run] at h;split at h
  ·split at h
   ·simp only [Eff.bind,Eff.rd];exact Zm h
   ·cases h
  ·cases h
theorem Zp {α β:Type}{f:α→Eff β}{H:zf}: ∀ {e:Eff α} {x:α},e.run H=some x→(e.bind f).lv H=e.lv H++(f x).lv H
 | .pure a,x,h=>by simp only [Eff.run,Option.some.injEq] at h;subst h;rfl
 | .fail,x,h=>by simp [Eff.run] at h
 | .get id k,x,h=>by
  simp only [Eff.run] at h;split at h
  ·rename_i sz es lv hh;simp only [Eff.bind,Eff.lv,hh];exact Zp h
  ·cases h
 | .live id k,x,h=>by
  simp only [Eff.run] at h;split at h
  ·simp only [Eff.bind,Eff.lv];rw [Zp h];rfl
  ·cases h
 | .new id k,x,h=>by
  simp only [Eff.run] at h;split at h
  ·split at h
   ·simp only [Eff.bind,Eff.lv];rw [Zp h];rfl
   ·cases h
  ·cases h
section
variable {c c':zy} (hc:Zk c c')
theorem YZ (hc:Zk c c'){r f:Nat}{args:List (Nat×D)}{H:zf}{o:Out}(h:(zX c r f args).run H=some o) :
  (zX c' r f args).run H=some o∧(zX c' r f args).rd H=(zX c r f args).rd H∧(zX c' r f args).lv H=(zX c r f args).lv H:=by
 have h0:=h
 unfold zX at h;rw [ze] at h;obtain ⟨p,h1,h2⟩:=Option.bind_eq_some_iff.1 h
 have key:=Yy (f:=fun p=>if zP (p.bs.map (·.1))&&apart (p.bs.map (·.1)) p.ids then
   match c f p.args p.rows with
   | some x=>match finish r p x.1 x.2 with
    | some o=>Xj o.1 (.pure o.2)
    | none=> .fail
   | none=> .fail
  else .fail) (g:=fun p=>if zP (p.bs.map (·.1))&&apart (p.bs.map (·.1)) p.ids then
   match c' f p.args p.rows with
   | some x=>match finish r p x.1 x.2 with
    | some o=>Xj o.1 (.pure o.2)
    | none=> .fail
   | none=> .fail
  else .fail) h1 (by
   split at h2
   ·rename_i hb
    cases hq:c f p.args p.rows with
    | none=>rw [hq] at h2;simp [Eff.run] at h2
    | some x=>rw [hc _ _ _ _ hq]
   ·simp [Eff.run] at h2)
 refine ⟨?_,key.2.1.symm,key.2.2.symm⟩
 rw [←h0];exact key.1.symm
theorem zf1 (hc:Zk c c'){ρ:PX→D}{r:Nat}{op:POp}{H:zf}{o:Out}(h:(opE c ρ r op).run H=some o) :
  (opE c' ρ r op).run H=some o∧(opE c' ρ r op).rd H=(opE c ρ r op).rd H∧(opE c' ρ r op).lv H=(opE c ρ r op).lv H:=by
 cases op
 case call f args=>exact YZ hc h
 case callQ f args=>
  have h0:=h
  simp only [opE] at h ⊢
  rw [ze] at h;obtain ⟨p,h1,h2⟩:=Option.bind_eq_some_iff.1 h
  obtain ⟨k1,k2,k3⟩:=YZ hc h1
  refine ⟨by rw [ze,k1];exact h2,?_,?_⟩
  ·rw [Zm h1,Zm k1,k2]
  ·rw [Zp h1,Zp k1,k3]
 case callV fs x args=>
  simp only [opE] at h ⊢
  cases hx:ρ x<;>rw [hx] at h<;>try (simp [Eff.run] at h;done)
  rename_i f;by_cases hfs:fs.contains f=true
  case neg=>simp only [if_neg hfs,Eff.run] at h;cases h
  simp only [if_pos hfs] at h ⊢
  rw [ze] at h;obtain ⟨p,h1,h2⟩:=Option.bind_eq_some_iff.1 h
  obtain ⟨k1,k2,k3⟩:=YZ hc h1
  refine ⟨by rw [ze,k1];exact h2,?_,?_⟩
  ·rw [Zm h1,Zm k1,k2]
  ·rw [Zp h1,Zp k1,k3]
 all_goals exact ⟨h,rfl,rfl⟩
theorem Zr (hc:Zk c c'){b:Nat}{o:PO}{s s':St}(h:zD c b o s=some s'):zD c' b o s=some s'∧zq c' b o s=zq c b o s:=by
 unfold zD at h ⊢
 unfold zq;split at h
 ·rename_i hg;split at h
  ·rename_i hw;simp only [hg,hw,if_true];split at h
   ·rename_i f args hop;obtain ⟨x,h1,h2⟩:=Option.map_eq_some_iff.1 h
    exact ⟨by rw [hc _ _ _ _ h1];exact congrArg some h2,rfl⟩
   ·rename_i op hop;obtain ⟨x,h1,h2⟩:=Option.map_eq_some_iff.1 h
    obtain ⟨k1,k2,k3⟩:=zf1 hc h1
    exact ⟨by rw [k1];exact congrArg some h2,by simp only [k1,h1,k2,k3]⟩
  ·rename_i hw;simp only [hg,hw,if_true,if_false];exact ⟨h,rfl⟩
 ·cases h
theorem Ja (hc:Zk c c'){b:Nat}: ∀ {os:List PO} {s s':St},jW c b os s=some s'→jW c' b os s=some s'
 | [],s,s',h=>h
 | o::os,s,s',h=>by
  simp only [jW] at h ⊢
  obtain ⟨s1,h1,h2⟩:=Option.bind_eq_some_iff.1 h
  rw [(Zr hc h1).1];exact Ja hc h2
theorem Jb (hc:Zk c c'){b:Nat}: ∀ {os:List PO} {i:Nat} {seen:List (Nat×Fp)} {s s':St},YA c b os i seen s=some s'→YA c' b os i seen s=some s'
 | [],i,seen,s,s',h=>h
 | o::os,i,seen,s,s',h=>by
  simp only [YA] at h ⊢
  split at h
  ·rename_i hs;obtain ⟨s1,h1,h2⟩:=Option.bind_eq_some_iff.1 h
   obtain ⟨k1,k2⟩:=Zr hc h1
   rw [k2,if_pos hs,k1];exact Jb hc h2
  ·cases h
theorem Zx {f g:St→Option (Ex×St)}(hfg: ∀s r,f s=some r→g s=some r): ∀ {n m:Nat} {s:St} {r:Ex×St},n≤m→y8 f n s=some r→y8 g m s=some r
 | 0,m,s,r,_,h=>by simp [y8] at h
 | n+1,0,s,r,hle,h=>by omega
 | n+1,m+1,s,r,hle,h=>by
  simp only [y8] at h ⊢
  cases hf:f s with
  | none=>rw [hf] at h;cases h
  | some x=>
   rw [hfg _ _ hf];rw [hf] at h;obtain ⟨ex,s1⟩:=x
   cases ex with
   | normal=>exact Zx hfg (by omega) h
   | exit i=>exact h
   | ret=>exact h
theorem qm (hc:Zk c c'){n m:Nat}(hnm:n≤m): ∀ {p:PC} {s:St} {r:Ex×St},code c n p s=some r→code c' m p s=some r:=by
 intro p;induction p with
 | skip=>exact fun h=>h
 | region draw nres ops=>
  intro s r h;simp only [code] at h ⊢
  obtain ⟨s1,h1,h2⟩:=Option.map_eq_some_iff.1 h
  split at h1
  ·rename_i hd;simp only [hd,if_true];rw [Jb hc h1];exact congrArg some h2
  ·rename_i hd;simp only [hd];rw [if_neg (by simp),Ja hc h1];exact congrArg some h2
 | seq a b iha ihb=>
  intro s r h;simp only [code] at h ⊢
  cases ha:code c n a s with
  | none=>rw [ha] at h;cases h
  | some x=>
   rw [iha ha];rw [ha] at h;obtain ⟨ex,s1⟩:=x
   cases ex with
   | normal=>exact ihb h
   | exit i=>exact h
   | ret=>exact h
 | cond q x y ihx ihy=>
  intro s r h;simp only [code] at h ⊢
  split at h
  ·rename_i b hb;split at h
   ·rename_i e;simp only [e,if_true];exact ihx h
   ·rename_i e;simp only [e];exact ihy h
  ·cases h
 | block id q ih=>
  intro s r h;simp only [code] at h ⊢
  cases ha:code c n q s with
  | none=>rw [ha] at h;cases h
  | some x=>
   rw [ih ha];rw [ha] at h;exact h
 | loop q ih=>
  intro s r h;exact Zx (fun s r h=>ih h) hnm h
 | exit id=>exact fun h=>h
 | ret=>exact fun h=>h
end
theorem yE (P:yn): ∀ {n m:Nat},n≤m→Zk (runN P n) (runN P m)
 | 0,m,_=>fun f a H x h=>by simp [runN] at h
 | n+1,0,h=>by omega
 | n+1,m+1,hle=>fun f a H x h=>by
  simp only [runN] at h ⊢
  cases hp:P f with
  | none=>rw [hp] at h;cases h
  | some pf=>
   rw [hp] at h;simp only at h ⊢
   split
   ·rename_i g hg;rw [hg] at h;exact h
   rename_i hg;rw [hg] at h;simp only at h ⊢
   cases hcode:code (runN P n) n pf.body ⟨a++List.replicate (pf.ntmps-a.length) .undef,H⟩ with
   | none=>rw [hcode] at h;cases h
   | some r=>
    rw [qm (yE P (by omega)) (by omega:n≤m) hcode];rw [hcode] at h;exact h
section
variable (pr:yn)
def Ends (c:PC)(s:St)(Q:Ex→St→Prop):Prop:= ∃n ex s',code (runN pr n) n c s=some (ex,s')∧Q ex s'
def Steps (b:Nat)(os:List PO)(s:St)(Q:St→Prop):Prop:= ∃n s',jW (runN pr n) b os s=some s'∧Q s'
def jU (b:Nat)(os:List PO)(i:Nat)(seen:List (Nat×Fp))(s:St)(Q:St→Prop):Prop:= ∃n s',YA (runN pr n) b os i seen s=some s'∧Q s'
def ZL (f:Nat)(args:List D)(H:zf)(Q:D→zf→Prop):Prop:= ∃n d H',runN pr n f args H=some (d,H')∧Q d H'
end
section
variable {pr:yn} {Q Q':Ex→St→Prop} {s:St}
theorem Ends.mono {c:PC}(h:Ends pr c s Q)(hq: ∀ex s',Q ex s'→Q' ex s'):Ends pr c s Q':=by
 obtain ⟨n,ex,s',h1,h2⟩:=h
 exact ⟨n,ex,s',h1,hq _ _ h2⟩
theorem Steps.mono {b:Nat}{os:List PO}{Q Q':St→Prop}(h:Steps pr b os s Q)(hq: ∀s',Q s'→Q' s'):Steps pr b os s Q':=by
 obtain ⟨n,s',h1,h2⟩:=h
 exact ⟨n,s',h1,hq _ h2⟩
theorem ZL.mono {f:Nat}{a:List D}{H:zf}{Q Q':D→zf→Prop}(h:ZL pr f a H Q)(hq: ∀d H',Q d H'→Q' d H'):ZL pr f a H Q':=by
 obtain ⟨n,d,H',h1,h2⟩:=h
 exact ⟨n,d,H',h1,hq _ _ h2⟩
theorem Ends.skip (h:Q .normal s):Ends pr .skip s Q:=⟨0,_,_,rfl,h⟩
theorem Ends.ret (h:Q .ret s):Ends pr .ret s Q:=⟨0,_,_,rfl,h⟩
theorem Ends.exit {id:Nat}(h:Q (.exit id) s):Ends pr (.exit id) s Q:=⟨0,_,_,rfl,h⟩
theorem Ends.region {k:Nat}{os:List PO}(h:Steps pr s.hp.length os ⟨s.ts,s.hp++List.replicate k .fresh⟩ (Q .normal)):Ends pr (.region false k os) s Q:=by
 obtain ⟨n,s',h1,h2⟩:=h
 exact ⟨n,.normal,s',by simp [code,h1],h2⟩
theorem Ends.regionD {k:Nat}{os:List PO}(h:jU pr s.hp.length os 0 [] ⟨s.ts,s.hp++List.replicate k .fresh⟩ (Q .normal)):Ends pr (.region true k os) s Q:=by
 obtain ⟨n,s',h1,h2⟩:=h
 exact ⟨n,.normal,s',by simp [code,h1],h2⟩
def zpH (pr:yn)(b:PC)(Q:Ex→St→Prop):Ex→St→Prop
 | .normal,s=>Ends pr b s Q
 | ex,s=>Q ex s
theorem Ends.seq {a b:PC}(h:Ends pr a s (zpH pr b Q)):Ends pr (.seq a b) s Q:=by
 obtain ⟨n,ex,s1,h1,h2⟩:=h
 cases ex with
 | normal=>
  obtain ⟨m,ex,s2,h3,h4⟩:=h2
  refine ⟨max n m,ex,s2,?_,h4⟩
  simp only [code,qm (yE pr (Nat.le_max_left n m)) (Nat.le_max_left n m) h1,qm (yE pr (Nat.le_max_right n m)) (Nat.le_max_right n m) h3]
 | exit i=>exact ⟨n,_,s1,by simp [code,h1],h2⟩
 | ret=>exact ⟨n,_,s1,by simp [code,h1],h2⟩
theorem Ends.cond {c:PX}{x y:PC}{b:Bool}(hb:c.ev s.ts= .bool b)(h1:b=true→Ends pr x s Q)(h2:b=false→Ends pr y s Q):Ends pr (.cond c x y) s Q:=by
 cases b with
 | true=>
  obtain ⟨n,ex,s',h3,h4⟩:=h1 rfl
  exact ⟨n,ex,s',by simp [code,hb,h3],h4⟩
 | false=>
  obtain ⟨n,ex,s',h3,h4⟩:=h2 rfl
  exact ⟨n,ex,s',by simp [code,hb,h3],h4⟩
def UZ (id:Nat)(Q:Ex→St→Prop):Ex→St→Prop
 | .exit j,s=>if j=id then Q .normal s else Q (.exit j) s
 | ex,s=>Q ex s
theorem Ends.block {id:Nat}{c:PC}(h:Ends pr c s (UZ id Q)):Ends pr (.block id c) s Q:=by
 obtain ⟨n,ex,s1,h1,h2⟩:=h
 cases ex with
 | normal=>exact ⟨n,_,s1,by simp [code,h1],h2⟩
 | ret=>exact ⟨n,_,s1,by simp [code,h1],h2⟩
 | exit j=>
  simp only [UZ] at h2;split at h2
  ·rename_i e;exact ⟨n,_,s1,by simp [code,h1,e],h2⟩
  ·rename_i e;exact ⟨n,_,s1,by simp [code,h1,e],h2⟩
theorem Steps.nil {b:Nat}{Q:St→Prop}(h:Q s):Steps pr b [] s Q:=⟨0,s,rfl,h⟩
theorem Steps.cons {b:Nat}{o:PO}{os:List PO}{Q:St→Prop}{n:Nat}{s1:St}(h:zD (runN pr n) b o s=some s1)(h2:Steps pr b os s1 Q):Steps pr b (o::os) s Q:=by
 obtain ⟨m,s',h3,h4⟩:=h2
 refine ⟨max n m,s',?_,h4⟩
 simp only [jW,(Zr (yE pr (Nat.le_max_left n m)) h).1,Option.bind_some];exact Ja (yE pr (Nat.le_max_right n m)) h3
theorem ZL.body {f:Nat}{args:List D}{H:zf}{Q:D→zf→Prop}{pf:PF}(hf:pr f=some pf)(ho:pf.orc=none)
  (h:Ends pr pf.body ⟨args++List.replicate (pf.ntmps-args.length) .undef,H⟩ (fun ex s=>(∀i,ex ≠ .exit i)∧ ∃d,jQ s pf.results=some d∧Q d s.hp)):ZL pr f args H Q:=by
 obtain ⟨n,ex,s',h1,h2,d,h3,h4⟩:=h
 refine ⟨n+1,d,s'.hp,?_,h4⟩
 simp only [runN,hf,ho,h1]
 cases ex with
 | normal=>simp [h3]
 | ret=>simp [h3]
 | exit i=>exact absurd rfl (h2 i)
end
section
variable {pr:yn} {b:Nat}
end
end Go.Pi
