import Derived.Test.YtbalfefjfgheoaaGreatKN
import Derived.Test.YtbalfefjfgheoaaGreatKB
set_option linter.all false
namespace Go.Pi
set_option linter.unusedVariables false
section
variable {S:Nat→Type} [Sg:Sig S] {ρ ρ':Rho} {H H':Heap} {fr:Fr} {b N:Nat} {t:TS S} {s:St} {α:Type}
def fz1 (o n:Nat) (e:Code) (l:List (T S e)):Val S→Val S
 | .whole q p=>(match Nat.beq q o,p with
  | true,[]=> .one (n+1) (.list e) l
  | true,_=> .undef
  | false,p=> .whole q p)
 | .win q p off len=>(match Nat.beq q o,p with
  | true,[]=> .one (n+1) (.list e) ((l.drop off).take len)
  | true,_=> .undef
  | false,p=> .win q p off len)
 | .ptr q p i j=>(match Nat.beq q o with
  | true=> .undef
  | false=> .ptr q p i j)
 | .pa q j z len=>(match Nat.beq q o with
  | true=> .undef
  | false=> .pa q j z len)
 | v=>v
def fzV (o n:Nat) (e:Code) (l:List (T S e)):Val S→Val S
 | .agg vs=> .agg (vs.map (fz1 o n e l))
 | .tup vs=> .tup (vs.map fun v=>match v with
  | .agg vs=> .agg (vs.map (fz1 o n e l))
  | v=>fz1 o n e l v)
 | v=>fz1 o n e l v
def fzO (o n:Nat) (e:Code) (l:List (T S e)):Obj S→Obj S
 | .box pn vs=> .box pn (vs.map (fz1 o n e l))
 | ob=>ob
def fzS (o n:Nat) (e:Code) (l:List (T S e)):List (Nat×Val S)→List (Nat×Val S)
 | []=> []
 | (i,v)::E=>(i,fzV o n e l v)::fzS o n e l E
def fzH (o n:Nat) (e:Code) (l:List (T S e)):List (Nat×Obj S)→List (Nat×Obj S)
 | []=> []
 | (i,v)::E=>match Nat.beq i o with
  | true=>fzH o n e l E
  | false=>(i,fzO o n e l v)::fzH o n e l E
def lowN:Code→Nat→Nat
 | .int _,_=>1
 | .bool,_=>1
 | .str,_=>1
 | _,n=>n
theorem RowR.low {n:Nat}: ∀ {e:Code} {q:List Nat→Option (Option Nat)} {l:List (T S e)},RowR H n e q l→RowR H (lowN e n) e q l
 | .int k,q,l,h=>RowB.ext (fun _ _ h=>h) (fun _ _ _=>rfl) (fun i v ds _ (h:All2 (Cl H n) [D.int k v] ds)=>show All2 (Cl H 1) [D.int k v] ds from h.mono fun _ _ e h=>by
   cases e with
   | head=>rw [h.sc rfl];exact Cl.plain rfl rfl
   | tail _ e=>cases e) h
 | .bool,q,l,h=>RowB.ext (fun _ _ h=>h) (fun _ _ _=>rfl) (fun i v ds _ (h:All2 (Cl H n) [D.bool v] ds)=>show All2 (Cl H 1) [D.bool v] ds from h.mono fun _ _ e h=>by
   cases e with
   | head=>rw [h.sc rfl];exact Cl.plain rfl rfl
   | tail _ e=>cases e) h
 | .str,q,l,h=>RowB.ext (fun _ _ h=>h) (fun _ _ _=>rfl) (fun i v ds _ (h:All2 (Cl H n) [D.str v] ds)=>show All2 (Cl H 1) [D.str v] ds from h.mono fun _ _ e h=>by
   cases e with
   | head=>rw [h.sc rfl];exact Cl.plain rfl rfl
   | tail _ e=>cases e) h
 | .own _,_,_,h | .flt,_,_,h | .list _,_,_,h | .arr _ _,_,_,h | .st _,_,_,h=>h
def TS.freeze (t:TS S) (o:Nat):Option (TS S):=match look t.hp o with
 | some (.row n e l)=>(match isOwn e,Nat.blt 0 (W (S:=S) e) with
  | false,true=>some { t with sl:=fzS o (lowN e n) e l t.sl,hp:=fzH o (lowN e n) e l t.hp,gh:=true }
  | _,_=>none)
 | _=>none
section
variable {o n:Nat} {e:Code} {l:List (T S e)}
theorem look_fzS: ∀ {E:List (Nat×Val S)} {i:Nat} {v:Val S},look (fzS o n e l E) i=some v→ ∃w,look E i=some w∧v=fzV o n e l w
 | [],_,_,h=>nomatch h
 | (k,w)::E,i,v,h=>by
  simp only [fzS,look] at h ⊢
  split at h
  ·cases h
   exact ⟨w,rfl,rfl⟩
  ·exact look_fzS h
theorem look_fzH: ∀ {E:List (Nat×Obj S)} {i:Nat} {v:Obj S},look (fzH o n e l E) i=some v→i≠o∧ ∃w,look E i=some w∧v=fzO o n e l w
 | [],_,_,h=>nomatch h
 | (k,w)::E,i,v,h=>by
  simp only [fzH] at h
  split at h
  ·rename_i q
   obtain ⟨h1,u,h2,h3⟩:=look_fzH h
   refine ⟨h1,u,?_,h3⟩
   have:Nat.beq k i=false:=ne_beq fun z=>h1 (z.symm.trans (Nat.eq_of_beq_eq_true q))
   simp only [look,this,h2]
  ·rename_i q
   simp only [look] at h ⊢
   split at h
   ·rename_i z
    cases h
    have:=Nat.eq_of_beq_eq_true z
    subst this
    exact ⟨beq_ne q,w,rfl,rfl⟩
   ·exact look_fzH h
structure Fz (ρ:Rho) (H H':Heap) (o n:Nat) (e:Code) (l:List (T S e)):Prop where
 x:Ext (del ρ o) H (del ρ o) H'
 w: ∀d,VS (S:=S) ρ H (.whole o []) d→Cl H' (n+1) (.lst (W (S:=S) e) (l.map (en e))) d
 c: ∀off len d,VS (S:=S) ρ H (.win o [] off len) d→Cl H' (n+1) (.lst (W (S:=S) e) (((l.drop off).take len).map (en e))) d
theorem Fz.v1 (f:Fz ρ H H' o n e l) {v:Val S} {d:D} (h:VR1 ρ H v d):VC (del ρ o) H' (fz1 o n e l v) [d]:=by
 have other: ∀ {v:Val S} {d:D},ment1 (isO o) v=false→(∀n c x,v ≠ .one n c x)→VR1 ρ H v d→VC (del ρ o) H' v [d]:=by
  intro v d hm hn h
  have:=(VR1.cut hm h).ext f.x
  cases v with
  | one n c x=>exact absurd rfl (hn n c x)
  | _=>exact ⟨d,rfl,this⟩
 cases v with
 | one _ _ _=>exact h.elim
 | agg _=>exact h.elim
 | tup _=>exact h.elim
 | whole q p=>
  simp only [fz1]
  split
  ·rename_i hq
   obtain rfl:=Nat.eq_of_beq_eq_true hq
   exact ⟨f.w d h,trivial⟩
  ·exact ⟨d,rfl,trivial⟩
  ·rename_i hq
   exact other hq (fun _ _ _ e=>nomatch e) h
 | win q p off len=>
  simp only [fz1]
  split
  ·rename_i hq
   obtain rfl:=Nat.eq_of_beq_eq_true hq
   exact ⟨f.c off len d h,trivial⟩
  ·exact ⟨d,rfl,trivial⟩
  ·rename_i hq
   exact other hq (fun _ _ _ e=>nomatch e) h
 | ptr q p i j=>
  simp only [fz1]
  split
  ·exact ⟨d,rfl,trivial⟩
  ·rename_i hq
   exact other hq (fun _ _ _ e=>nomatch e) h
 | pa q j z len=>
  simp only [fz1]
  split
  ·exact ⟨d,rfl,trivial⟩
  ·rename_i hq
   exact other hq (fun _ _ _ e=>nomatch e) h
 | _=>exact other rfl (fun _ _ _ e=>nomatch e) h
theorem Fz.vc (f:Fz ρ H H' o n e l) {v:Val S} {ds:List D} (h:VC ρ H v ds):VC (del ρ o) H' (fz1 o n e l v) ds:=by
 cases v with
 | one m c x=>exact cls_heap f.x.hle h
 | _=>obtain ⟨d,rfl,h⟩:=h;exact f.v1 h
theorem Fz.vcs (f:Fz ρ H H' o n e l): ∀ {vs:List (Val S)} {ds:List D},VCs ρ H vs ds→VCs (del ρ o) H' (vs.map (fz1 o n e l)) ds
 | [],_,h=>h
 | _::_,_,⟨a,b,e',h,k⟩=>⟨a,b,e',f.vc h,Fz.vcs f k⟩
theorem VC.toVSx {v:Val S} {d:D} (h:VC ρ H v [d]) (hv: ∀n c x,v= .one n c x→isAgg c=false):VSx ρ H v d:=by
 cases v with
 | one n c x=>simp only [VSx,hv n c x rfl];exact h
 | agg _=>obtain ⟨_,_,h⟩:=h;exact h.elim
 | tup _=>obtain ⟨_,_,h⟩:=h;exact h.elim
 | _=>obtain ⟨d',e,h⟩:=h;cases e;exact h
theorem Fz.vsx (f:Fz ρ H H' o n e l) {v:Val S} {d:D} (h:VSx ρ H v d):VSx (del ρ o) H' (match v with
  | .agg vs=> .agg (vs.map (fz1 o n e l))
  | v=>fz1 o n e l v) d:=by
 have key: ∀ {v:Val S},(∀n c x,v ≠ .one n c x)→VR1 ρ H v d→VSx (del ρ o) H' (fz1 o n e l v) d:=by
  intro v hn h
  refine VC.toVSx (f.v1 h) fun m c x hx=> ?_
  cases v with
  | one m' c' x'=>exact absurd rfl (hn m' c' x')
  | whole q p=>simp only [fz1] at hx;split at hx<;>cases hx;rfl
  | win q p off len=>simp only [fz1] at hx;split at hx<;>cases hx;rfl
  | ptr q p i j=>simp only [fz1] at hx;split at hx<;>cases hx
  | pa q j z len=>simp only [fz1] at hx;split at hx<;>cases hx
  | _=>cases hx
 cases v with
 | agg vs=>exact let ⟨ds,e',h⟩:=h; ⟨ds,e',f.vcs h⟩
 | one m c x=>exact VSx.ext (v:= .one m c x) ⟨f.x.hle,fun o p x h=>h,f.x.row⟩ (VSx.cut (P:=isO o) (v:= .one m c x) rfl h)
 | _=>exact key (fun _ _ _ e=>nomatch e) h
theorem Fz.vs (f:Fz ρ H H' o n e l) {v:Val S} {d:D} (h:VS ρ H v d):VS (del ρ o) H' (fzV o n e l v) d:=by
 cases v with
 | tup vs=>
  obtain ⟨ds,e',h⟩:=h
  refine ⟨ds,e',?_⟩
  clear e'
  induction vs generalizing ds with
  | nil=>cases ds<;>exact h
  | cons v vs ih=>
   cases ds with
   | nil=>exact h
   | cons d ds=>exact ⟨f.vsx h.1,ih ds h.2⟩
 | agg vs=>exact (f.vsx (v:= .agg vs) h).toVS
 | _=>simp only [VS] at h;exact (f.vsx h).toVS
end
def Rel (fr:Fr) (b N:Nat) (t:TS S) (s:St):Prop:= ∃g ρ,GhK s g∧RelR fr b N ρ t g
theorem RelR.shut (h:RelR fr b N ρ t s) {o:Nat} {t':TS S} (ht:t.freeze o=some t'): ∃g,GhK s g∧RelR fr b N (del ρ o) t' g:=by
 unfold TS.freeze at ht
 split at ht
 ·rename_i n0 e l ho
  split at ht
  ·rename_i he hw
   cases ht
   have hw:0<W (S:=S) e:=by simpa using hw
   generalize hn:lowN e n0=n
   have hrw:RowR s.hp n e (ρ o) l:=by
    rw [← hn]
    exact RowR.low (show RowR s.hp n0 e (ρ o) l from h.hp _ _ ho)
   have fin: ∀g:St,GhK s g→g.ts=s.ts→Fz ρ s.hp g.hp o n e l→(∀o' p id,del ρ o o' p=some (some id)→hat g.hp id=hat s.hp id)→(∀j,hat s.hp j= .fresh→hat g.hp j= .fresh)→(∀id k,fr id=some k→hat g.hp id=hat s.hp id)→g.hp.length=s.hp.length →
     RelR fr b N (del ρ o) { t with sl:=fzS o n e l t.sl,hp:=fzH o n e l t.hp,gh:=true } g:=by
    intro g hg hts f hk hfresh hfr hlen
    refine ⟨by rw [hts];exact h.len,fun i v hv=> ?_,fun q ob hq=> ?_,fun o1 p o2 p' id h1 h2=>h.inj _ _ _ _ _ (del_some h1).2 (del_some h2).2,fun o1 p id h1=> ?_,fun q p hq=> ?_,fun id k hk'=> ?_,h.avl.1,fun r hr=> ?_⟩
    ·obtain ⟨w,h1,rfl⟩:=look_fzS hv
     rw [hts]
     exact f.vs (h.sl _ _ h1)
    ·obtain ⟨h1,w,h2,rfl⟩:=look_fzH hq
     have h3:=h.hp _ _ h2
     cases w with
     | row n' e' l'=>exact RowR.ext f.x.hle (fun p x hx=>by rw [del_ne h1];exact hx) (fun p id hp=>hk q p id (by rw [del_ne h1];exact hp)) h3
     | box pn vs=>
      obtain ⟨id,ds,k1,k2,k3,k9⟩:=h3
      have k4:=f.vcs k3
      refine ⟨id,ds,by rw [del_ne h1];exact k1,?_,k4,k9⟩
      rw [hk q [] id (by rw [del_ne h1];exact k1),k2, ← k3.len, ← k4.len]
    ·obtain ⟨k1,sz,es,k2⟩:=h.liv _ _ _ (del_some h1).2
     exact ⟨k1,sz,es,by rw [hk _ _ _ h1];exact k2⟩
    ·have:=h.nxt q p hq
     simp only [del,cutR]
     split
     ·rfl
     ·exact this
    ·obtain ⟨k1,k2⟩:=h.frm _ _ hk'
     exact ⟨by rw [hfr _ _ hk'];exact k1,by rw [hlen];exact k2⟩
    ·obtain ⟨k1,k2,k3⟩:=h.avl.2 r hr
     exact ⟨hfresh _ k1,by rw [hlen];exact k2,k3⟩
   rcases RowR.els he hrw with ⟨q1,q2⟩ | ⟨id,es,q1,q2,q3⟩
   ·refine ⟨s,GhK.refl s,fin s (GhK.refl s) rfl ⟨Ext.refl _ _,fun d hd=> ?_,fun off len d hd=> ?_⟩ (fun _ _ _ _=>rfl) (fun _ h=>h) (fun _ _ _=>rfl) rfl⟩
    ·rcases hd with ⟨_,_,_,c1,_⟩ | ⟨_,rfl⟩
     ·rw [q1] at c1;cases c1
     ·rw [q2];exact Cl.plain rfl Nr.mk_nil
    ·rcases hd with ⟨_,_,_,c1,_⟩ | ⟨_,_,_,rfl⟩
     ·rw [q1] at c1;cases c1
     ·rw [q2,List.drop_nil,List.take_nil];exact Cl.plain rfl Nr.mk_nil
   ·have hlt:id<s.hp.length:=hat_ltK (by rw [q2];simp)
    have hid: ∀r p,del ρ o r p≠some (some id):=fun r p e=>by
     obtain ⟨z1,z3⟩:=del_some e
     exact z1 (h.inj _ _ _ _ _ z3 q1).1
    have hf:hat (s.hp.modify id freeze) id= .row (W (S:=S) e) es false:=by rw [hat_mod,if_pos rfl,q2];rfl
    have hne: ∀j,j≠id→hat (s.hp.modify id freeze) j=hat s.hp j:=fun j hj=>by rw [hat_mod,if_neg hj]
    have hle:HLe s.hp (s.hp.modify id freeze):=fun j sz es' hj=>by
     rw [hat_mod]
     split
     ·rw [hj];rfl
     ·exact hj
    have hx:Ext (del ρ o) s.hp (del ρ o) (s.hp.modify id freeze):=⟨hle,fun _ _ _ h=>h,fun o' p id' sz es' k1 k2=>⟨es',by rw [hne _ (fun e=>by subst e;exact hid _ _ k1)];exact k2,rfl⟩⟩
    have hlen: ∀d∈es,d.length≤W (S:=S) e:=fun d hd=>by
     obtain ⟨i,hi,rfl⟩:=List.mem_iff_getElem.mp hd
     obtain ⟨d',h1,h2⟩:=q3.2 i (l[i]'(by rw [← q3.1];exact hi)) (List.getElem?_eq_getElem _)
     rw [List.getElem?_eq_getElem hi] at h1
     cases h1
     rw [← h2.len,encs_len]
     exact Nat.le_refl _
    have hels: ∀off len,All2 (All2 (Cl (s.hp.modify id freeze) n)) (((l.drop off).take len).map (en e)) ((es.drop off).take len):=fun off len=>by
     have:=((q3.mono (Nat.le_refl _) hle).drop off).take len
     refine All2.of (by rw [List.length_map];exact this.1.symm) (fun i a d ha hd'=> ?_)
     rw [List.getElem?_map,Option.map_eq_some_iff] at ha
     obtain ⟨z,hz,rfl⟩:=ha
     obtain ⟨d',h1,h2⟩:=this.2 i z hz
     rw [hd'] at h1
     cases h1
     exact h2
    have hgh:GhK s ⟨s.ts,s.hp.modify id freeze⟩:=⟨rfl,by simp,fun j=>by
     by_cases e:j=id
     ·subst e;exact .inr (.inl ⟨_,_,q2,hf⟩)
     ·exact .inl (hne j e)⟩
    refine ⟨⟨s.ts,s.hp.modify id freeze⟩,hgh,fin _ hgh rfl ⟨hx,fun d hd=> ?_,fun off len d hd=> ?_⟩ (fun o' p id' k1=>hne _ (fun e=>by subst e;exact hid _ _ k1)) (fun j hj=>by rw [hne j (fun e=>by subst e;rw [q2] at hj;cases hj)];exact hj) (fun j k hk=>hne j (fun e=>by subst e;rw [(h.liv _ _ _ q1).1] at hk;cases hk)) (by simp)⟩
    ·rcases hd with ⟨id',sz,es',c1,c2,rfl⟩ | ⟨c1,_⟩<;>rw [q1] at c1<;>cases c1
     rw [q2] at c2;cases c2
     refine .inr (.inl ⟨_,_,id,0,es.length,es,rfl,rfl,hf,by simp,?_,hw,hlen⟩)
     have:=hels 0 es.length
     rw [List.drop_zero,List.take_of_length_le (by rw [q3.1];exact Nat.le_refl _)] at this
     exact this
    ·rcases hd with ⟨id',sz,es',c1,c2,c3,rfl⟩ | ⟨c1,_⟩<;>rw [q1] at c1<;>cases c1
     rw [q2] at c2;cases c2
     exact .inr (.inl ⟨_,_,id,off,len,es,rfl,rfl,hf,c3,hels off len,hw,hlen⟩)
  ·cases ht
 ·cases ht
def TS.freezeN (t:TS S) (o:Nat):Option (TS S):=match look t.hp o with
 | some (.row n (.own e) l)=>(match isOwn e,Nat.blt 0 (W (S:=S) e) with
  | false,true=>some { ((t.clear2 (P3 o) (Q3 o)).setO o (.row (n+1) (.list e) l)) with gh:=true }
  | _,_=>none)
 | _=>none
theorem RelR.tell (h:RelR fr b N ρ t s) {o:Nat} {ob:Obj S} (hob:ObjR fr ρ s.hp o ob):RelR fr b N ρ (t.setO o ob) s:=
 ⟨h.len,h.sl,fun o' ob' ho=>by
  rcases look_put ho with ⟨rfl,rfl⟩ | ⟨_,ho⟩
  ·exact hob
  ·exact h.hp _ _ ho,h.inj,h.liv,h.nxt,h.frm,h.avl⟩
theorem RelR.sub (h:RelR fr b N ρ t s) {H':Heap} (hle:HLe s.hp H') (hl:H'.length=s.hp.length) (hk: ∀o p id,ρ o p=some (some id)→hat H' id=hat s.hp id) (hf: ∀j,hat s.hp j= .fresh→hat H' j= .fresh) (hfr: ∀id k,fr id=some k→hat H' id=hat s.hp id):RelR fr b N ρ t ⟨s.ts,H'⟩:=by
 have hx:Ext ρ s.hp ρ H':=⟨hle,fun _ _ _ h=>h,fun o p id sz es k1 k2=>⟨es,by rw [hk _ _ _ k1];exact k2,rfl⟩⟩
 refine ⟨h.len,fun i v hv=>(h.sl i v hv).ext hx,fun o ob ho=>ObjR.ext hx (fun p id k=>hk _ _ _ k) (h.hp _ _ ho),h.inj,fun o p id k=> ?_,h.nxt,fun id k hk'=> ?_,h.avl.1,fun r hr=> ?_⟩
 ·obtain ⟨k1,sz,es,k2⟩:=h.liv _ _ _ k
  exact ⟨k1,sz,es,by show hat H' id=_;rw [hk _ _ _ k];exact k2⟩
 ·obtain ⟨k1,k2⟩:=h.frm _ _ hk'
  exact ⟨by show hat H' id=_;rw [hfr _ _ hk'];exact k1,by show id<H'.length;rw [hl];exact k2⟩
 ·obtain ⟨k1,k2,k3⟩:=h.avl.2 r hr
  exact ⟨hf _ k1,by show _<H'.length;rw [hl];exact k2,k3⟩
open Classical in
noncomputable def frzP (H:Heap) (P:Nat→Prop):Heap:=(List.range H.length).map fun j=>if P j then freeze (hat H j) else hat H j
open Classical in
theorem hat_frzP {H:Heap} {P:Nat→Prop} {j:Nat} (hj:P j→j<H.length):hat (frzP H P) j=if P j then freeze (hat H j) else hat H j:=by
 unfold frzP
 rcases Nat.lt_or_ge j H.length with q | q
 ·rw [hat,List.getD_eq_getElem?_getD,List.getElem?_map,List.getElem?_range q]
  rfl
 ·have hp: ¬P j:=fun h=>by have:=hj h;omega
  rw [if_neg hp]
  simp [hat,List.getD,q]
theorem RelR.shutN (h:RelR fr b N ρ t s) {o:Nat} {t':TS S} (ht:t.freezeN o=some t'): ∃g ρ',GhK s g∧RelR fr b N ρ' t' g:=by
 unfold TS.freezeN at ht
 split at ht
 ·rename_i n e l ho
  split at ht
  ·rename_i he hw
   cases ht
   have hw:0<W (S:=S) e:=by simpa using hw
   have hrow:RowR s.hp n (.own e) (ρ o) l:=h.hp _ _ ho
   let P:Nat→Prop:=fun j=> ∃i,ρ o [i]=some (some j)
   have hP: ∀j,P j→ ∃sz es,hat s.hp j= .row sz es true:=fun j ⟨i,hi⟩=>(h.liv _ _ _ hi).2
   have hPl: ∀j,P j→j<s.hp.length:=fun j hj=>by
    obtain ⟨sz,es,q⟩:=hP j hj
    exact hat_ltK (by rw [q];simp)
   have hh: ∀j,hat (frzP s.hp P) j=hat s.hp j ∨ ∃sz es,P j∧hat s.hp j= .row sz es true∧hat (frzP s.hp P) j= .row sz es false:=fun j=>by
    rw [hat_frzP (hPl j)]
    split
    ·rename_i hj
     obtain ⟨sz,es,q⟩:=hP j hj
     exact .inr ⟨sz,es,hj,q,by rw [q];rfl⟩
    ·exact .inl rfl
   have hin: ∀j,P j→ ∀sz es,hat s.hp j= .row sz es true→hat (frzP s.hp P) j= .row sz es false:=fun j hj sz es q=>by
    rw [hat_frzP (hPl j),if_pos hj,q];rfl
   have hout: ∀j, ¬P j→hat (frzP s.hp P) j=hat s.hp j:=fun j hj=>by rw [hat_frzP (hPl j),if_neg hj]
   have hlen:(frzP s.hp P).length=s.hp.length:=by simp [frzP]
   have hle:HLe s.hp (frzP s.hp P):=fun j sz es hj=>by
    rw [hout j (fun hp=>by
     obtain ⟨sz',es',q⟩:=hP j hp
     rw [hj] at q;cases q)]
    exact hj
   have rc:RelR fr b N (cutR ρ (P3 o)) (t.clear2 (P3 o) (Q3 o)) s:=h.clear2 (fun r p hr=>by
    simp only [Q3] at hr
    simp only [P3,hr,Bool.false_and])
   have hcut: ∀ {r p id},cutR ρ (P3 o) r p=some (some id)→ ¬P id:=fun {r p id} e ⟨i,hi⟩=>by
    obtain ⟨e1,e2⟩:=cutR_some e
    obtain ⟨rfl,rfl⟩:=h.inj _ _ _ _ _ e2 hi
    simp [P3] at e1
   have r2:RelR fr b N (cutR ρ (P3 o)) (t.clear2 (P3 o) (Q3 o)) ⟨s.ts,frzP s.hp P⟩:=rc.sub hle hlen (fun r p id e=>hout _ (hcut e)) (fun j hj=>by
     rw [hout j (fun hp=>by
      obtain ⟨sz',es',q⟩:=hP j hp
      rw [hj] at q;cases q)]
     exact hj) (fun id k hk=>hout _ (fun ⟨i,hi⟩=>by
      rw [(h.liv _ _ _ hi).1] at hk;cases hk))
   have r3:=r2.tell (o:=o) (ob:= .row (n+1) (.list e) l) (by
    have top0:cutR ρ (P3 o) o []=ρ o []:=by simp [cutR,P3]
    rcases hrow with ⟨q1,q2⟩ | ⟨id,es,q1,q2,q3,q4⟩
    ·exact .inl ⟨by rw [top0];exact q1,q2⟩
    ·have hnP: ¬P id:=hcut (r:=o) (p:= []) (by rw [top0];exact q1)
     refine .inr ⟨id,es,by rw [top0];exact q1,by show hat (frzP s.hp P) id=_;rw [hout _ hnP];exact q2,q3,fun i v hv=> ?_⟩
     obtain ⟨ds,k1,x,k2,k3,k4⟩:=q4 i v hv
     refine ⟨ds,k1,?_⟩
     rw [k3]
     refine ⟨?_,trivial⟩
     rcases RowR.els he k4 with ⟨w1,w2⟩ | ⟨id2,es2,w1,w2,w3⟩
     ·rw [k2] at w1;cases w1
      have w2:v= []:=w2
      rw [w2]
      exact Cl.plain rfl Nr.mk_nil
     ·rw [k2] at w1;cases w1
      have hf:=hin id2 ⟨i,k2⟩ _ _ w2
      have hlen2: ∀d∈es2,d.length≤W (S:=S) e:=fun d hd=>by
       obtain ⟨i,hi,rfl⟩:=List.mem_iff_getElem.mp hd
       obtain ⟨d',h1,h2⟩:=w3.2 i ((v:List (T S e))[i]'(by rw [← w3.1];exact hi)) (List.getElem?_eq_getElem _)
       rw [List.getElem?_eq_getElem hi] at h1
       cases h1
       rw [← h2.len,encs_len]
       exact Nat.le_refl _
      refine .inr (.inl ⟨_,_,id2,0,List.length v,es2,rfl,rfl,hf,by rw [w3.1];exact Nat.le_of_eq (Nat.zero_add _),?_,hw,hlen2⟩)
      rw [List.drop_zero,List.take_of_length_le (by rw [w3.1];exact Nat.le_refl _)]
      have w4:=w3.mono (Nat.le_refl _) hle
      refine All2.of (by rw [List.length_map];exact w4.1.symm) (fun i a d ha hd'=> ?_)
      rw [List.getElem?_map,Option.map_eq_some_iff] at ha
      obtain ⟨z,hz,rfl⟩:=ha
      obtain ⟨d',h1,h2⟩:=w4.2 i z hz
      rw [hd'] at h1
      cases h1
      exact h2)
   refine ⟨⟨s.ts,frzP s.hp P⟩,_,⟨rfl,hlen.symm,fun j=> ?_⟩,⟨r3.len,r3.sl,r3.hp,r3.inj,r3.liv,r3.nxt,r3.frm,r3.avl⟩⟩
   rcases hh j with q | ⟨sz,es,_,q1,q2⟩
   ·exact .inl q
   ·exact .inr (.inl ⟨sz,es,q1,q2⟩)
  ·cases ht
 ·cases ht
end
end Go.Pi
namespace Go.Pi
set_option linter.unusedVariables false
inductive VSh1 where
 | un
 | skip
 | nil
 | nilp
 | fn (n:Nat)
 | one (n:Nat) (c:Code)
 | whole (o:Nat)
 | ptr (o j:Nat)
 | fp (n:Nat) (c:Code) (j:Nat)
inductive VSh where
 | b (v:VSh1)
 | agg (l:List VSh1)
inductive OSh where
 | row (n:Nat) (e:Code)
 | box (pn:Option Nat) (l:List VSh1)
structure ShapeK where
 sl:List (Nat×VSh)
 hp:List (Nat×OSh)
 nx:Nat
 gh:Bool
def codes1:VSh1→List Code→List Code
 | .one _ c,k=>c::k
 | .fp _ c _,k=>c::k
 | _,k=>k
def codesL:List VSh1→List Code→List Code
 | [],k=>k
 | v::vs,k=>codes1 v (codesL vs k)
def codesV:VSh→List Code→List Code
 | .b v,k=>codes1 v k
 | .agg l,k=>codesL l k
def codesS:List (Nat×VSh)→List Code→List Code
 | [],k=>k
 | (_,v)::vs,k=>codesV v (codesS vs k)
def codesO:OSh→List Code→List Code
 | .row _ e,k=> .list e::k
 | .box _ l,k=>codesL l k
def codesH:List (Nat×OSh)→List Code→List Code
 | [],k=>k
 | (_,v)::vs,k=>codesO v (codesH vs k)
def ShapeK.cs (sh:ShapeK):List Code:=codesS sh.sl (codesH sh.hp [])
section
variable {S:Nat→Type} [Sg:Sig S] {ρ ρ':Rho} {H H':Heap} {fr:Fr} {b N:Nat} {t:TS S} {s:St} {α:Type}
def open1:(v:VSh1)→(k:List Code)→Flds S (codes1 v k)→Val S×Flds S k
 | .un,_,p=>(.undef,p)
 | .skip,_,p=>(.skip,p)
 | .nil,_,p=>(.nil,p)
 | .nilp,_,p=>(.nilp,p)
 | .fn n,_,p=>(.fn n,p)
 | .one n c,_,p=>(.one n c p.1,p.2)
 | .whole o,_,p=>(.whole o [],p)
 | .ptr o j,_,p=>(.ptr o [] 0 j,p)
 | .fp n c j,_,p=>(.fp n c p.1 j,p.2)
def openL:(vs:List VSh1)→(k:List Code)→Flds S (codesL vs k)→List (Val S)×Flds S k
 | [],_,p=>([],p)
 | v::vs,k,p=>((open1 v (codesL vs k) p).1::(openL vs k (open1 v (codesL vs k) p).2).1,(openL vs k (open1 v (codesL vs k) p).2).2)
def openV:(v:VSh)→(k:List Code)→Flds S (codesV v k)→Val S×Flds S k
 | .b v,k,p=>open1 v k p
 | .agg l,k,p=>(.agg (openL l k p).1,(openL l k p).2)
def openS:(vs:List (Nat×VSh))→(k:List Code)→Flds S (codesS vs k)→List (Nat×Val S)×Flds S k
 | [],_,p=>([],p)
 | (i,v)::vs,k,p=>((i,(openV v (codesS vs k) p).1)::(openS vs k (openV v (codesS vs k) p).2).1,(openS vs k (openV v (codesS vs k) p).2).2)
def openO:(v:OSh)→(k:List Code)→Flds S (codesO v k)→Obj S×Flds S k
 | .row n e,_,p=>(.row n e p.1,p.2)
 | .box pn l,k,p=>(.box pn (openL l k p).1,(openL l k p).2)
def openH:(vs:List (Nat×OSh))→(k:List Code)→Flds S (codesH vs k)→List (Nat×Obj S)×Flds S k
 | [],_,p=>([],p)
 | (i,v)::vs,k,p=>((i,(openO v (codesH vs k) p).1)::(openH vs k (openO v (codesH vs k) p).2).1,(openH vs k (openO v (codesH vs k) p).2).2)
def openSh (sh:ShapeK) (p:Flds S sh.cs):TS S:=
 { sl:=(openS sh.sl (codesH sh.hp []) p).1,hp:=(openH sh.hp [] (openS sh.sl (codesH sh.hp []) p).2).1,nx:=sh.nx,av:= [],gh:=sh.gh }
abbrev Sgm:=List (Nat×Option Nat)
def bindS (σ:Sgm) (o:Nat) (a:Option Nat):Option Sgm:=match look σ o with
 | none=>some ((o,a)::σ)
 | some a'=>match a',a with
  | some x,some y=>(match Nat.beq x y with
   | true=>some σ
   | false=>none)
  | none,none=>some σ
  | _,_=>none
def Sub (σ σ':Sgm):Prop:= ∀o a,look σ o=some a→look σ' o=some a
theorem Sub.tr {a c d:Sgm} (h:Sub a c) (k:Sub c d):Sub a d:=fun o x q=>k o x (h o x q)
theorem bindS_ok {σ σ':Sgm} {o:Nat} {a:Option Nat} (h:bindS σ o a=some σ'):Sub σ σ'∧look σ' o=some a:=by
 unfold bindS at h
 split at h
 ·rename_i hn
  cases h
  refine ⟨fun q x hx=> ?_,by simp [look]⟩
  simp only [look]
  split
  ·rename_i e
   rw [← Nat.eq_of_beq_eq_true e,hn] at hx
   cases hx
  ·exact hx
 ·rename_i a' ha
  split at h
  ·split at h
   ·rename_i e
    cases h
    rw [Nat.eq_of_beq_eq_true e] at ha
    exact ⟨fun _ _ q=>q,ha⟩
   ·cases h
  ·cases h
   exact ⟨fun _ _ q=>q,ha⟩
  ·cases h
abbrev KC1 (S:Nat→Type) (k:List Code):=List (Val S)→Sgm→Option (Flds S k)
def cOne {k:List Code} (n:Nat) (c:Code) (ws:List (Val S)) (σ:Sgm) (K:KC1 S k):Option (T S c×Flds S k):=match cutV fuelV (W (S:=S) c) ws,Nat.blt 0 n with
 | some q,true=>(match mk n c q.1,K q.2 σ with
  | some x,some p=>some (x,p)
  | _,_=>none)
 | _,_=>none
def cFp {k:List Code} (n:Nat) (c:Code) (j:Nat) (ws:List (Val S)) (σ:Sgm) (K:KC1 S k):Option (T S c×Flds S k):=match ws with
 | .fp n' c' x j'::ws=>(match Nat.ble n' n&&Nat.beq j' j,conv c' c x,K ws σ with
  | true,some y,some p=>some (y,p)
  | _,_,_=>none)
 | _=>none
def cUn {k:List Code} (ws:List (Val S)) (σ:Sgm) (K:KC1 S k):Option (Flds S k):=match ws with
 | w::ws=>(match Nat.beq (width w) 1 with
  | true=>K ws σ
  | false=>none)
 | _=>none
def plainB:VSh1→Val S→Bool
 | .skip,.skip=>true
 | .nil,.nil=>true
 | .nilp,.nilp=>true
 | .fn n,.fn m=>Nat.beq n m
 | _,_=>false
def cPl {k:List Code} (v:VSh1) (ws:List (Val S)) (σ:Sgm) (K:KC1 S k):Option (Flds S k):=match ws with
 | w::ws=>(match plainB v w with
  | true=>K ws σ
  | false=>none)
 | _=>none
def cWh {k:List Code} (o:Nat) (ws:List (Val S)) (σ:Sgm) (K:KC1 S k):Option (Flds S k):=match ws with
 | .whole a p::ws=>(match p,bindS σ o (some a) with
  | [],some σ'=>K ws σ'
  | _,_=>none)
 | .nil::ws=>(match bindS σ o none with
  | some σ'=>K ws σ'
  | none=>none)
 | _=>none
def cPt {k:List Code} (o j:Nat) (ws:List (Val S)) (σ:Sgm) (K:KC1 S k):Option (Flds S k):=match ws with
 | .ptr a p i j'::ws=>(match p,Nat.beq i 0&&Nat.beq j' j,bindS σ o (some a) with
  | [],true,some σ'=>K ws σ'
  | _,_,_=>none)
 | _=>none
def close1 {k:List Code}:(v:VSh1)→List (Val S)→Sgm→KC1 S k→Option (Flds S (codes1 v k))
 | .one n c,ws,σ,K=>cOne n c ws σ K
 | .fp n c j,ws,σ,K=>cFp n c j ws σ K
 | .un,ws,σ,K=>cUn ws σ K
 | .skip,ws,σ,K=>cPl .skip ws σ K
 | .nil,ws,σ,K=>cPl .nil ws σ K
 | .nilp,ws,σ,K=>cPl .nilp ws σ K
 | .fn n,ws,σ,K=>cPl (.fn n) ws σ K
 | .whole o,ws,σ,K=>cWh o ws σ K
 | .ptr o j,ws,σ,K=>cPt o j ws σ K
def closeLK {k:List Code}:(vs:List VSh1)→List (Val S)→Sgm→(Sgm→Option (Flds S k))→Option (Flds S (codesL vs k))
 | [],ws,σ,K=>(match ws with
  | []=>K σ
  | _::_=>none)
 | v::vs,ws,σ,K=>close1 v ws σ fun ws σ=>closeLK vs ws σ K
def slotV:Val S→Option (Bool×List (Val S))
 | .agg vs=>some (true,vs)
 | .tup _=>none
 | .one n c v=>some (isAgg c,[.one n c v])
 | v=>some (false,[v])
def flagV:VSh→Bool×List VSh1
 | .b (.one n c)=>(isAgg c,[.one n c])
 | .b v=>(false,[v])
 | .agg l=>(true,l)
def beqB:Bool→Bool→Bool
 | true,true=>true
 | false,false=>true
 | _,_=>false
def closeV {k:List Code} (v:VSh) (w:Val S) (σ:Sgm) (K:Sgm→Option (Flds S k)):Option (Flds S (codesV v k)):=match slotV w with
 | some (f,ws)=>match v with
  | .b v=>(match beqB f (flagV (.b v)).1 with
   | true=>closeLK (k:=k) [v] ws σ K
   | false=>none)
  | .agg l=>(match f with
   | true=>closeLK (k:=k) l ws σ K
   | false=>none)
 | none=>none
def closeS (t:TS S) {k:List Code}:(vs:List (Nat×VSh))→Sgm→(Sgm→Option (Flds S k))→Option (Flds S (codesS vs k))
 | [],σ,K=>K σ
 | (i,v)::vs,σ,K=>match look t.sl i with
  | some w=>closeV v w σ fun σ'=>closeS t vs σ' K
  | none=>none
def cRow (t:TS S) {k:List Code} (n:Nat) (e:Code) (o:Nat) (σ:Sgm) (K:Sgm→Option (Flds S k)):Option (List (T S e)×Flds S k):=match look σ o with
 | some (some a)=>(match look t.hp a with
  | some (.row n' e' l)=>(match Nat.ble n' n,castE e' e l,K σ with
   | true,some m,some p=>some (m,p)
   | _,_,_=>none)
  | _=>none)
 | some none=>(match K σ with
  | some p=>some ([],p)
  | none=>none)
 | none=>none
def eqO:Option Nat→Option Nat→Bool
 | none,none=>true
 | some a,some b=>Nat.beq a b
 | _,_=>false
theorem eqO_eq {a b:Option Nat} (h:eqO a b=true):a=b:=by
 cases a<;>cases b<;>first | rfl | cases h | exact congrArg some (Nat.eq_of_beq_eq_true h)
def findB (pn:Option Nat):List (Nat×Obj S)→Option Nat
 | []=>none
 | (a,.box q _)::l=>(match eqO q pn with
  | true=>some a
  | false=>findB pn l)
 | _::l=>findB pn l
def cBox1 (t:TS S) {k:List Code} (pn':Option Nat) (l:List VSh1) (a:Nat) (σ:Sgm) (K:Sgm→Option (Flds S k)):Option (Flds S (codesL l k)):=match look t.hp a with
 | some (.box pn vs)=>(match eqO pn pn' with
  | true=>closeLK l vs σ K
  | false=>none)
 | _=>none
def cBox (t:TS S) {k:List Code} (pn':Option Nat) (l:List VSh1) (o:Nat) (σ:Sgm) (K:Sgm→Option (Flds S k)):Option (Flds S (codesL l k)):=match look σ o with
 | some (some a)=>cBox1 t pn' l a σ K
 | some none=>none
 | none=>(match pn',findB pn' t.hp with
  | some _,some a=>(match bindS σ o (some a) with
   | some σ'=>cBox1 t pn' l a σ' K
   | none=>none)
  | _,_=>none)
def closeO (t:TS S) {k:List Code}:(v:OSh)→(o:Nat)→Sgm→(Sgm→Option (Flds S k))→Option (Flds S (codesO v k))
 | .row n e,o,σ,K=>cRow t n e o σ K
 | .box pn l,o,σ,K=>cBox t pn l o σ K
def closeH (t:TS S) {k:List Code}:(vs:List (Nat×OSh))→Sgm→(Sgm→Option (Flds S k))→Option (Flds S (codesH vs k))
 | [],σ,K=>K σ
 | (o,v)::vs,σ,K=>closeO t v o σ fun σ'=>closeH t vs σ' K
def injS:Sgm→Bool
 | []=>true
 | (o,a)::σ=>(match a with
  | some x=>σ.all fun p=>match p.2 with
   | some y => !Nat.beq x y
   | none=>true
  | none=>true)&&injS σ
def okSg (sh:ShapeK) (t:TS S) (σ:Sgm):Bool:=injS σ&&(σ.all fun p=>Nat.blt p.1 sh.nx)&&(sh.gh || !t.gh)
def closeSh (sh:ShapeK) (t:TS S):Option (Flds S sh.cs):=
 closeS t sh.sl [] fun σ=>closeH t sh.hp σ fun σ'=>match okSg sh t σ' with
  | true=>some ()
  | false=>none
end
end Go.Pi
namespace Go.Pi
set_option linter.unusedVariables false
section
variable {S:Nat→Type} [Sg:Sig S] {ρ ρ':Rho} {H H':Heap} {fr:Fr} {b N:Nat} {t:TS S} {s:St} {α:Type}
def Agree (ρ ρ':Rho) (σ:Sgm):Prop:= ∀o a,look σ o=some a→match a with
 | some a=> ∀p,ρ' o p=ρ a p
 | none=>ρ' o []=some none
theorem Agree.sub {σ σ':Sgm} (h:Agree ρ ρ' σ') (k:Sub σ σ'):Agree ρ ρ' σ:=fun o a q=>h o a (k o a q)
theorem VCs.single {v:Val S} {ds:List D} (h:VC ρ H v ds):VCs ρ H [v] ds:=⟨ds,[],(List.append_nil _).symm,h,rfl⟩
theorem cOne_ok {k:List Code} {n:Nat} {c:Code} {ws:List (Val S)} {σ:Sgm} {K:KC1 S k} {p:T S c×Flds S k} (h:cOne n c ws σ K=some p) :
  ∃ws',K ws' σ=some p.2∧ ∀ds,VCs ρ H ws ds→ ∃a b,ds=a++b∧All2 (Cl H n) (en c p.1) a∧VCs ρ H ws' b:=by
 unfold cOne at h
 split at h
 ·rename_i q hq hn
  split at h
  ·rename_i x p' hx hp
   cases h
   refine ⟨q.2,hp,fun ds hd=> ?_⟩
   obtain ⟨d,e,rfl,h1,h2,h3⟩:=cutV_ok (a:=q.1) (b:=q.2) hq hd
   exact ⟨d,e,rfl,mk_ok (by simpa using hn) hx h2,h3⟩
  ·cases h
 ·cases h
theorem cFp_ok {k:List Code} {n j:Nat} {c:Code} {ws:List (Val S)} {σ:Sgm} {K:KC1 S k} {p:T S c×Flds S k} (h:cFp n c j ws σ K=some p) :
  ∃ws',K ws' σ=some p.2∧ ∀ds,VCs ρ H ws ds→ ∃a b,ds=a++b∧(∃d,a= [d]∧ ∃r,Cl H n (.fptr ((en c p.1).drop j++r)) d)∧VCs ρ H ws' b:=by
 unfold cFp at h
 split at h
 ·rename_i n' c' x j' ws
  split at h
  ·rename_i y p' hb hc hp
   cases h
   simp only [Bool.and_eq_true] at hb
   refine ⟨ws,hp,fun ds hd=> ?_⟩
   obtain ⟨a,a',rfl,⟨d,rfl,r,h1⟩,h2⟩:=hd
   obtain rfl:=Nat.eq_of_beq_eq_true hb.2
   exact ⟨[d],a',rfl,⟨d,rfl,r,by rw [(conv_ok hc).1];exact h1.up (Nat.le_of_ble_eq_true hb.1)⟩,h2⟩
  ·cases h
 ·cases h
theorem cUn_ok {k:List Code} {ws:List (Val S)} {σ:Sgm} {K:KC1 S k} {p:Flds S k} (h:cUn ws σ K=some p) :
  ∃ws',K ws' σ=some p∧ ∀ds,VCs ρ H ws ds→ ∃a b,ds=a++b∧(∃d,a= [d])∧VCs ρ H ws' b:=by
 unfold cUn at h
 split at h
 ·rename_i w ws
  split at h
  ·rename_i hw
   refine ⟨ws,h,fun ds hd=> ?_⟩
   obtain ⟨a,a',rfl,h1,h2⟩:=hd
   have hl:=h1.len
   rw [Nat.eq_of_beq_eq_true hw] at hl
   match a,hl with
   | [d],_=>exact ⟨[d],a',rfl,⟨d,rfl⟩,h2⟩
  ·cases h
 ·cases h
def valP:VSh1→Val S
 | .skip=> .skip
 | .nil=> .nil
 | .nilp=> .nilp
 | .fn n=> .fn n
 | _=> .undef
theorem plainB_ok {v:VSh1} {w:Val S} (h:plainB v w=true):w=valP v∧ ∀ρ' d,VR1 ρ H w d→VR1 ρ' H (valP (S:=S) v) d:=by
 unfold plainB at h
 split at h
 ·exact ⟨rfl,fun _ _ h=>h⟩
 ·exact ⟨rfl,fun _ _ h=>h⟩
 ·exact ⟨rfl,fun _ _ h=>h⟩
 ·obtain rfl:=Nat.eq_of_beq_eq_true h
  exact ⟨rfl,fun _ _ h=>h⟩
 ·cases h
theorem cPl_ok {k:List Code} {v:VSh1} {ws:List (Val S)} {σ:Sgm} {K:KC1 S k} {p:Flds S k} (h:cPl v ws σ K=some p) :
  ∃ws',K ws' σ=some p∧ ∀ρ' ds,VCs ρ H ws ds→ ∃a b,ds=a++b∧(∃d,a= [d]∧VR1 ρ' H (valP (S:=S) v) d)∧VCs ρ H ws' b:=by
 unfold cPl at h
 split at h
 ·rename_i w ws
  split at h
  ·rename_i hw
   refine ⟨ws,h,fun ρ' ds hd=> ?_⟩
   obtain ⟨a,a',rfl,h1,h2⟩:=hd
   obtain ⟨rfl,h3⟩:=plainB_ok (ρ:=ρ) (H:=H) hw
   have: ∃d,a= [d]∧VR1 ρ H (valP (S:=S) v) d:=by
    cases v<;>exact h1
   obtain ⟨d,rfl,h4⟩:=this
   exact ⟨[d],a',rfl,⟨d,rfl,h3 ρ' d h4⟩,h2⟩
  ·cases h
 ·cases h
theorem cWh_ok {k:List Code} {o:Nat} {ws:List (Val S)} {σ:Sgm} {K:KC1 S k} {p:Flds S k} (h:cWh o ws σ K=some p) :
  ∃ws' σ',Sub σ σ'∧K ws' σ'=some p∧ ∀ρ',Agree ρ ρ' σ'→ ∀ds,VCs ρ H ws ds→ ∃a b,ds=a++b∧(∃d,a= [d]∧VR1 (S:=S) ρ' H (.whole o []) d)∧VCs ρ H ws' b:=by
 unfold cWh at h
 split at h
 ·rename_i a p' ws
  split at h
  ·rename_i σ1 hb
   obtain ⟨b1,b2⟩:=bindS_ok hb
   refine ⟨ws,σ1,b1,h,fun ρ' ha ds hd=> ?_⟩
   obtain ⟨a0,a',rfl,⟨d,rfl,h1⟩,h2⟩:=hd
   have hag:=ha o _ b2
   refine ⟨[d],a',rfl,⟨d,rfl,?_⟩,h2⟩
   simp only [VR1,hag]
   exact h1
  ·cases h
 ·rename_i ws
  split at h
  ·rename_i σ1 hb
   obtain ⟨b1,b2⟩:=bindS_ok hb
   refine ⟨ws,σ1,b1,h,fun ρ' ha ds hd=> ?_⟩
   obtain ⟨a0,a',rfl,⟨d,rfl,h1⟩,h2⟩:=hd
   exact ⟨[d],a',rfl,⟨d,rfl,.inr ⟨ha o _ b2,h1⟩⟩,h2⟩
  ·cases h
 ·cases h
theorem cPt_ok {k:List Code} {o j:Nat} {ws:List (Val S)} {σ:Sgm} {K:KC1 S k} {p:Flds S k} (h:cPt o j ws σ K=some p) :
  ∃ws' σ',Sub σ σ'∧K ws' σ'=some p∧ ∀ρ',Agree ρ ρ' σ'→ ∀ds,VCs ρ H ws ds→ ∃a b,ds=a++b∧(∃d,a= [d]∧VR1 (S:=S) ρ' H (.ptr o [] 0 j) d)∧VCs ρ H ws' b:=by
 unfold cPt at h
 split at h
 ·rename_i a p' i j' ws
  split at h
  ·rename_i σ1 hb0 hb
   simp only [Bool.and_eq_true] at hb0
   obtain ⟨b1,b2⟩:=bindS_ok hb
   refine ⟨ws,σ1,b1,h,fun ρ' ha ds hd=> ?_⟩
   obtain ⟨a0,a',rfl,⟨d,rfl,h1⟩,h2⟩:=hd
   have hag:=ha o _ b2
   obtain rfl:=Nat.eq_of_beq_eq_true hb0.1
   obtain rfl:=Nat.eq_of_beq_eq_true hb0.2
   refine ⟨[d],a',rfl,⟨d,rfl,?_⟩,h2⟩
   simp only [VR1,hag]
   exact h1
  ·cases h
 ·cases h
theorem close1_ok {k:List Code} {v:VSh1} {ws:List (Val S)} {σ:Sgm} {K:KC1 S k} {p:Flds S (codes1 v k)} (h:close1 v ws σ K=some p) :
  ∃ws' σ' q,Sub σ σ'∧K ws' σ'=some q∧(open1 v k p).2=q∧ ∀ρ':Rho,Agree ρ ρ' σ'→ ∀ds,VCs ρ H ws ds→ ∃a b,ds=a++b∧VC ρ' H (open1 v k p).1 a∧VCs ρ H ws' b:=by
 have pl: ∀ {v:VSh1} {p:Flds S k},cPl v ws σ K=some p→ ∃ws' σ',Sub σ σ'∧K ws' σ'=some p∧ ∀ρ':Rho,Agree ρ ρ' σ'→ ∀ds,VCs ρ H ws ds→ ∃a b,ds=a++b∧(∃d,a= [d]∧VR1 ρ' H (valP (S:=S) v) d)∧VCs ρ H ws' b:=fun h=>by
  obtain ⟨ws',h1,h2⟩:=cPl_ok (ρ:=ρ) (H:=H) h
  exact ⟨ws',σ,fun _ _ q=>q,h1,fun ρ' _=>h2 ρ'⟩
 cases v with
 | one n c=>
  obtain ⟨ws',h1,h2⟩:=cOne_ok (ρ:=ρ) (H:=H) h
  exact ⟨ws',σ,p.2,fun _ _ q=>q,h1,rfl,fun ρ' _=>h2⟩
 | fp n c j=>
  obtain ⟨ws',h1,h2⟩:=cFp_ok (ρ:=ρ) (H:=H) h
  exact ⟨ws',σ,p.2,fun _ _ q=>q,h1,rfl,fun ρ' _=>h2⟩
 | un=>
  obtain ⟨ws',h1,h2⟩:=cUn_ok (ρ:=ρ) (H:=H) h
  exact ⟨ws',σ,p,fun _ _ q=>q,h1,rfl,fun ρ' _ ds hd=>let ⟨a,b,e,⟨d,h3⟩,h4⟩:=h2 ds hd; ⟨a,b,e,⟨d,h3,trivial⟩,h4⟩⟩
 | skip=>obtain ⟨ws',σ',h1,h2,h3⟩:=pl h;exact ⟨ws',σ',p,h1,h2,rfl,h3⟩
 | nil=>obtain ⟨ws',σ',h1,h2,h3⟩:=pl h;exact ⟨ws',σ',p,h1,h2,rfl,h3⟩
 | nilp=>obtain ⟨ws',σ',h1,h2,h3⟩:=pl h;exact ⟨ws',σ',p,h1,h2,rfl,h3⟩
 | fn n=>obtain ⟨ws',σ',h1,h2,h3⟩:=pl h;exact ⟨ws',σ',p,h1,h2,rfl,h3⟩
 | whole o=>obtain ⟨ws',σ',h1,h2,h3⟩:=cWh_ok (ρ:=ρ) (H:=H) h;exact ⟨ws',σ',p,h1,h2,rfl,h3⟩
 | ptr o j=>obtain ⟨ws',σ',h1,h2,h3⟩:=cPt_ok (ρ:=ρ) (H:=H) h;exact ⟨ws',σ',p,h1,h2,rfl,h3⟩
theorem closeL_okK {k:List Code}: ∀ {vs:List VSh1} {ws:List (Val S)} {σ:Sgm} {K:Sgm→Option (Flds S k)} {p:Flds S (codesL vs k)},closeLK vs ws σ K=some p →
  ∃σ' q,Sub σ σ'∧K σ'=some q∧(openL vs k p).2=q∧ ∀ρ':Rho,Agree ρ ρ' σ'→ ∀ds,VCs ρ H ws ds→VCs ρ' H (openL vs k p).1 ds
 | [],ws,σ,K,p,h=>by
  simp only [closeLK] at h
  split at h
  ·exact ⟨σ,p,fun _ _ q=>q,h,rfl,fun ρ' _ ds hd=>hd⟩
  ·cases h
 | v::vs,ws,σ,K,p,h=>by
  simp only [closeLK] at h
  obtain ⟨ws1,σ1,q1,z1,z2,z3,z4⟩:=close1_ok (ρ:=ρ) (H:=H) h
  obtain ⟨σ2,q2,y1,y2,y3,y4⟩:=closeL_okK z2
  refine ⟨σ2,q2,z1.tr y1,y2,by simp only [openL,z3,y3],fun ρ' ha ds hd=> ?_⟩
  obtain ⟨a,b,rfl,h1,h2⟩:=z4 ρ' (ha.sub y1) ds hd
  simp only [openL,z3]
  exact ⟨a,b,rfl,h1,y4 ρ' ha b h2⟩
theorem slotV_ok {w:Val S} {f:Bool} {ws:List (Val S)} {d:D} (h:slotV w=some (f,ws)) (k:VS ρ H w d): ∃ds,VCs ρ H ws ds∧(f=true→d= .agg ds)∧(f=false→ds= [d]):=by
 have base: ∀ {w:Val S},(∀n c x,w ≠ .one n c x)→VR1 ρ H w d→VCs ρ H [w] [d]:=by
  intro w hn h
  refine VCs.single ?_
  cases w with
  | one n c x=>exact absurd rfl (hn n c x)
  | _=>exact ⟨d,rfl,h⟩
 cases w with
 | agg vs=>cases h;obtain ⟨ds,e,k⟩:=k;exact ⟨ds,k,⟨fun _=>e,fun e=>nomatch e⟩⟩
 | tup _=>cases h
 | one n c v=>
  cases h
  simp only [VS,VSx] at k
  cases hc:isAgg c with
  | true=>rw [hc] at k;obtain ⟨ds,e,k⟩:=k;exact ⟨ds,VCs.single k,⟨fun _=>e,fun e=>nomatch e⟩⟩
  | false=>rw [hc] at k;exact ⟨[d],VCs.single k,⟨(fun e=>nomatch e),fun _=>rfl⟩⟩
 | _=>cases h;exact ⟨[d],base (fun _ _ _ e=>nomatch e) k,⟨(fun e=>nomatch e),fun _=>rfl⟩⟩
theorem closeV_ok {k:List Code} {v:VSh} {w:Val S} {σ:Sgm} {K:Sgm→Option (Flds S k)} {p:Flds S (codesV v k)} (h:closeV v w σ K=some p) :
  ∃σ' q,Sub σ σ'∧K σ'=some q∧(openV v k p).2=q∧ ∀ρ':Rho,Agree ρ ρ' σ'→ ∀d,VS ρ H w d→VS ρ' H (openV v k p).1 d:=by
 unfold closeV at h
 split at h
 ·rename_i f ws hw
  split at h
  ·rename_i v
   split at h
   ·rename_i hf
    obtain ⟨σ',q,z1,z2,z3,z4⟩:=closeL_okK (ρ:=ρ) (H:=H) (vs:= [v]) h
    refine ⟨σ',q,z1,z2,z3,fun ρ' ha d hd=> ?_⟩
    obtain ⟨ds,k1,k2⟩:=slotV_ok hw hd
    have k3:=z4 ρ' ha ds k1
    have k3:VCs ρ' H [(open1 v k p).1] ds:=k3
    obtain ⟨d1,d2,rfl,k4,k5⟩:=k3
    have k5:d2= []:=k5
    subst k5
    rw [List.append_nil] at k2 k1
    show VS ρ' H (open1 v k p).1 d
    cases v with
    | one n c=>
     simp only [open1,VS,VSx]
     have hfc:f=isAgg c:=by
      have hf:beqB f (isAgg c)=true:=hf
      cases f<;>cases hc:isAgg c<;>rw [hc] at hf<;>first | rfl | cases hf
     subst hfc
     cases hc:isAgg c with
     | true=>exact ⟨d1,k2.1 hc,k4⟩
     | false=>have k2:=k2.2 hc;subst k2;exact k4
    | _=>
     have hf:beqB f false=true:=hf
     cases f with
     | true=>cases hf
     | false=>
      have k2:=k2.2 rfl
      subst k2
      obtain ⟨d',e,k6⟩:=k4
      cases e
      exact k6
   ·cases h
  ·rename_i l
   split at h
   ·obtain ⟨σ',q,z1,z2,z3,z4⟩:=closeL_okK (ρ:=ρ) (H:=H) (vs:=l) h
    refine ⟨σ',q,z1,z2,z3,fun ρ' ha d hd=> ?_⟩
    obtain ⟨ds,k1,k2⟩:=slotV_ok hw hd
    exact ⟨ds,k2.1 rfl,z4 ρ' ha ds k1⟩
   ·cases h
 ·cases h
theorem closeS_ok {ts:List D} (hsl: ∀i v,look t.sl i=some v→VS ρ H v (ts.getD i .undef)) {k:List Code}: ∀ {vs:List (Nat×VSh)} {σ:Sgm} {K:Sgm→Option (Flds S k)} {p:Flds S (codesS vs k)},closeS t vs σ K=some p →
  ∃σ' q,Sub σ σ'∧K σ'=some q∧(openS vs k p).2=q∧ ∀ρ':Rho,Agree ρ ρ' σ'→ ∀i v,look (openS vs k p).1 i=some v→VS ρ' H v (ts.getD i .undef)
 | [],σ,K,p,h=>⟨σ,p,fun _ _ q=>q,h,rfl,fun _ _ i v hv=>nomatch hv⟩
 | (i,v)::vs,σ,K,p,h=>by
  simp only [closeS] at h
  split at h
  ·rename_i w hw
   obtain ⟨σ1,q1,z1,z2,z3,z4⟩:=closeV_ok (ρ:=ρ) (H:=H) h
   obtain ⟨σ2,q2,y1,y2,y3,y4⟩:=closeS_ok hsl z2
   refine ⟨σ2,q2,z1.tr y1,y2,?_,fun ρ' ha j u hu=> ?_⟩
   ·simp only [openS,z3,y3]
   ·simp only [openS,look] at hu
    split at hu
    ·rename_i e
     cases hu
     obtain rfl:=Nat.eq_of_beq_eq_true e
     exact z4 ρ' (ha.sub y1) _ (hsl _ _ hw)
    ·rw [z3] at hu
     exact y4 ρ' ha j u hu
  ·cases h
theorem closeO_ok (hh: ∀o ob,look t.hp o=some ob→ObjR fr ρ H o ob) {k:List Code} {v:OSh} {o:Nat} {σ:Sgm} {K:Sgm→Option (Flds S k)} {p:Flds S (codesO v k)} (h:closeO t v o σ K=some p) :
  ∃σ' q,Sub σ σ'∧K σ'=some q∧(openO v k p).2=q∧ ∀ρ':Rho,Agree ρ ρ' σ'→ObjR fr ρ' H o (openO v k p).1:=by
 cases v with
 | row n e=>
  have h:cRow t n e o σ K=some p:=h
  unfold cRow at h
  split at h
  ·rename_i a ha
   split at h
   ·rename_i n' e' l hl
    split at h
    ·rename_i m p' hn hm hp
     cases h
     obtain ⟨he,rfl⟩:=castE_ok hm
     subst he
     refine ⟨σ,p',fun _ _ q=>q,hp,rfl,fun ρ' hag=> ?_⟩
     have h1:=hag o _ ha
     have h2:RowR H n' e' (ρ a) l:=hh _ _ hl
     exact (h2.ext (HLe.refl _) (fun p x hx=>by rw [h1];exact hx) (fun _ _ _=>rfl)).up (Nat.le_of_ble_eq_true hn)
    ·cases h
   ·cases h
  ·rename_i ha
   split at h
   ·rename_i p' hp
    cases h
    exact ⟨σ,p',fun _ _ q=>q,hp,rfl,fun ρ' hag=>RowR.of_nil (hag o _ ha)⟩
   ·cases h
  ·cases h
 | box pn' l=>
  have h:cBox t pn' l o σ K=some p:=h
  have key: ∀ {a:Nat} {σ0:Sgm},Sub σ σ0→look σ0 o=some (some a)→cBox1 t pn' l a σ0 K=some p →
    ∃σ' q,Sub σ σ'∧K σ'=some q∧(openO (.box pn' l) k p).2=q∧ ∀ρ':Rho,Agree ρ ρ' σ'→ObjR fr ρ' H o (openO (.box pn' l) k p).1:=by
   intro a σ0 hs ha h
   unfold cBox1 at h
   split at h
   ·rename_i pn vs hl
    split at h
    ·rename_i hpn
     obtain rfl:=eqO_eq hpn
     obtain ⟨σ',q,z1,z2,z3,z4⟩:=closeL_okK (ρ:=ρ) (H:=H) (vs:=l) h
     refine ⟨σ',q,hs.tr z1,z2,z3,fun ρ' hag=> ?_⟩
     have h1:=hag o _ (z1 _ _ ha)
     obtain ⟨id,ds,k1,k2,k3,k9⟩:=hh _ _ hl
     have k4:=z4 ρ' hag ds k3
     exact ⟨id,ds,by rw [h1];exact k1,by rw [← k4.len,k3.len];exact k2,k4,k9⟩
    ·cases h
   ·cases h
  unfold cBox at h
  split at h
  ·rename_i a ha
   exact key (fun _ _ q=>q) ha h
  ·cases h
  ·split at h
   ·rename_i a _
    split at h
    ·rename_i σ0 hb
     obtain ⟨b1,b2⟩:=bindS_ok hb
     exact key b1 b2 h
    ·cases h
   ·cases h
theorem closeH_ok (hh: ∀o ob,look t.hp o=some ob→ObjR fr ρ H o ob) {k:List Code}: ∀ {vs:List (Nat×OSh)} {σ:Sgm} {K:Sgm→Option (Flds S k)} {p:Flds S (codesH vs k)},closeH t vs σ K=some p →
  ∃σ' q,Sub σ σ'∧K σ'=some q∧(openH vs k p).2=q∧ ∀ρ':Rho,Agree ρ ρ' σ'→ ∀o ob,look (openH vs k p).1 o=some ob→ObjR fr ρ' H o ob
 | [],σ,K,p,h=>⟨σ,p,fun _ _ q=>q,h,rfl,fun _ _ i v hv=>nomatch hv⟩
 | (o,v)::vs,σ,K,p,h=>by
  simp only [closeH] at h
  obtain ⟨σ1,q1,z1,z2,z3,z4⟩:=closeO_ok (ρ:=ρ) (H:=H) hh h
  obtain ⟨σ2,q2,y1,y2,y3,y4⟩:=closeH_ok hh z2
  refine ⟨σ2,q2,z1.tr y1,y2,?_,fun ρ' ha j u hu=> ?_⟩
  ·simp only [openH,z3,y3]
  ·simp only [openH,look] at hu
   split at hu
   ·rename_i e
    cases hu
    obtain rfl:=Nat.eq_of_beq_eq_true e
    exact z4 ρ' (ha.sub y1)
   ·rw [z3] at hu
    exact y4 ρ' ha j u hu
def rhoG (ρ:Rho) (σ:Sgm):Rho:=fun o p=>match look σ o with
 | some (some a)=>ρ a p
 | some none=>(match p with
  | []=>some none
  | _=>none)
 | none=>none
theorem rhoG_agree (σ:Sgm):Agree ρ (rhoG ρ σ) σ:=fun o a h=>by
 cases a with
 | some a=>intro p;simp only [rhoG,h]
 | none=>simp only [rhoG,h]
theorem rhoG_some {σ:Sgm} {o:Nat} {p:List Nat} {id:Nat} (h:rhoG ρ σ o p=some (some id)): ∃a,look σ o=some (some a)∧ρ a p=some (some id):=by
 unfold rhoG at h
 split at h
 ·rename_i a ha;exact ⟨a,ha,h⟩
 ·split at h<;>cases h
 ·cases h
theorem look_mem {σ:Sgm}: ∀ {o:Nat} {a:Option Nat},look σ o=some a→(o,a)∈σ:=by
 induction σ with
 | nil=>intro o a h;cases h
 | cons x σ ih=>
  intro o a h
  obtain ⟨k,v⟩:=x
  simp only [look] at h
  split at h
  ·rename_i e
   cases h
   rw [Nat.eq_of_beq_eq_true e]
   exact List.mem_cons_self ..
  ·exact List.mem_cons_of_mem _ (ih h)
theorem injS_ok: ∀ {σ:Sgm},injS σ=true→ ∀ {o o' a:Nat},look σ o=some (some a)→look σ o'=some (some a)→o=o'
 | [],_,_,_,_,h,_=>nomatch h
 | (k,v)::σ,h,o,o',a,h1,h2=>by
  simp only [injS,Bool.and_eq_true] at h
  simp only [look] at h1 h2
  have key: ∀ {q:Nat},v=some a→look σ q=some (some a)→False:=fun {q} hv hq=>by
   have h0:=h.1
   rw [hv] at h0
   have:=List.all_eq_true.mp h0 _ (look_mem hq)
   simp at this
  cases e1:Nat.beq k o<;>cases e2:Nat.beq k o'<;>simp only [e1] at h1<;>simp only [e2] at h2
  ·exact injS_ok h.2 h1 h2
  ·cases h2;exact (key rfl h1).elim
  ·cases h1;exact (key rfl h2).elim
  ·rw [← Nat.eq_of_beq_eq_true e1, ← Nat.eq_of_beq_eq_true e2]
theorem RelR.closeSh (h:RelR fr b N ρ t s) {sh:ShapeK} {p:Flds S sh.cs} (hc:Pi.closeSh sh t=some p): ∃ρ',RelR fr b N ρ' (openSh sh p) s:=by
 unfold Pi.closeSh at hc
 obtain ⟨σ1,q1,z1,z2,z3,z4⟩:=closeS_ok h.sl hc
 obtain ⟨σ2,q2,y1,y2,y3,y4⟩:=closeH_ok h.hp z2
 split at y2
 ·rename_i hok
  simp only [okSg,Bool.and_eq_true] at hok
  obtain ⟨⟨o1,o2⟩,o3⟩:=hok
  refine ⟨rhoG ρ σ2,h.len,fun i v hv=> ?_,fun o ob ho=> ?_,fun o p o' p' id h1 h2=> ?_,fun o p id h1=> ?_,fun o p ho=> ?_,h.frm,List.nodup_nil,fun r hr=>nomatch hr⟩
  ·exact z4 _ ((rhoG_agree σ2).sub y1) i v hv
  ·have ho:look (openH sh.hp [] (openS sh.sl (codesH sh.hp []) p).2).1 o=some ob:=ho
   rw [z3] at ho
   exact y4 _ (rhoG_agree σ2) o ob ho
  ·obtain ⟨a,e1,e2⟩:=rhoG_some h1
   obtain ⟨a',e3,e4⟩:=rhoG_some h2
   obtain ⟨rfl,rfl⟩:=h.inj _ _ _ _ _ e2 e4
   exact ⟨injS_ok o1 e1 e3,rfl⟩
  ·obtain ⟨a,e1,e2⟩:=rhoG_some h1
   exact h.liv _ _ _ e2
  ·have ho:sh.nx≤o:=ho
   unfold rhoG
   cases hl:look σ2 o with
   | none=>rfl
   | some a=>
    have:=List.all_eq_true.mp o2 _ (look_mem hl)
    have:o<sh.nx:=by simpa using this
    omega
 ·cases y2
end
end Go.Pi
namespace Go.Pi
set_option linter.unusedVariables false
section
variable {S:Nat→Type} [Sg:Sig S] {ρ ρ':Rho} {H H':Heap} {fr:Fr} {b N:Nat} {t:TS S} {s:St} {α:Type}
def FzR (P:Nat→Prop) (H:Heap) (v d:D):Prop:= ∃z,(frz 11 d).run H=some z∧Nr v z.1∧ ∀i∈z.2,dead H i∨P i
theorem Cl.fz {P:Nat→Prop} {n:Nat} (hn:n≤11) {v d:D} (h:Cl H n v d):FzR P H v d:=by
 obtain ⟨z,h1,h2,h3⟩:=h.frz
 exact ⟨z,frz_up h1 hn,h2,fun i hi=> .inl (h3 i hi)⟩
theorem FzR.each {P:Nat→Prop}: ∀ {vs ds:List D},All2 (FzR P H) vs ds→ ∃z,(eachC (frz 11) ds).run H=some z∧All2 Nr vs z.1∧ ∀i∈z.2,dead H i∨P i
 | [],[],_=>⟨([],[]),rfl,trivial,by simp⟩
 | v::vs,d::ds,h=>by
  obtain ⟨x,h1,h2,h3⟩:=h.1
  obtain ⟨y,h4,h5,h6⟩:=FzR.each h.2
  refine ⟨(x.1::y.1,x.2++y.2),by simp [eachC,run_bindE,h1,h4,Eff.run],⟨h2,h5⟩,fun i hi=> ?_⟩
  simp at hi
  exact hi.elim (h3 i) (h6 i)
 | [],_::_,h | _::_,[],h=>h.elim
def dp:Code→Nat
 | .own c=>dp c+1
 | _=>0
theorem eachE_els {P:Nat→Prop} {m:Nat} {f:D→Eff (D×List Nat)}: ∀ {vs ds:List (List D)},All2 (fun v d=> ∃z,(eachC f d).run H=some z∧All2 Nr v z.1∧ ∀i∈z.2,dead H i∨P i) vs ds →
  ∃z,(eachE f ds).run H=some z∧All2 (All2 Nr) vs z.1∧ ∀i∈z.2,dead H i∨P i
 | [],[],_=>⟨([],[]),rfl,trivial,by simp⟩
 | v::vs,d::ds,h=>by
  obtain ⟨x,h1,h2,h3⟩:=h.1
  obtain ⟨y,h4,h5,h6⟩:=eachE_els (m:=m) h.2
  refine ⟨(x.1::y.1,x.2++y.2),by simp [eachE,run_bindE,h1,h4,Eff.run],⟨h2,h5⟩,fun i hi=> ?_⟩
  simp at hi
  exact hi.elim (h3 i) (h6 i)
 | [],_::_,h | _::_,[],h=>h.elim
theorem cls_each {P:Nat→Prop} {n m:Nat} (hn:n≤m) {vs ds:List D} (h:All2 (Cl H n) vs ds): ∃z,(eachC (frz m) ds).run H=some z∧All2 Nr vs z.1∧ ∀i∈z.2,dead H i∨P i:=by
 obtain ⟨z,h1,h2,h3⟩:=eachC_cl h (f:=frz m) (fun v d k=>by
  obtain ⟨z,h1,h2,h3⟩:=k.frz
  exact ⟨z,frz_up h1 hn,h2,h3⟩)
 exact ⟨z,h1,h2,fun i hi=> .inl (h3 i hi)⟩
theorem row_fz {n:Nat}: ∀ {e:Code} {q:List Nat→Option (Option Nat)} {l:List (T S e)} {m:Nat},RowR H n e q l→n+dp e≤m →
  (∀id es,q []=some (some id)→hat H id= .row (W (S:=S) e) es true→ ∀off len,off+len≤es.length→ ∃z,(frz (m+1) (.ref id off len)).run H=some z∧Nr (.lst (W (S:=S) e) (((l.drop off).take len).map (en e))) z.1∧ ∀i∈z.2,dead H i ∨ ∃p,q p=some (some i))
 | e,q,l,m,h,hm=>by
  intro id es h1 h2 off len hol
  have fin: ∀(vs:List (List D)),vs=l.map (en e)→All2 (fun v d=> ∃z,(eachC (frz m) d).run H=some z∧All2 Nr v z.1∧ ∀i∈z.2,dead H i ∨ ∃p,q p=some (some i)) vs es →
    ∃z,(frz (m+1) (.ref id off len)).run H=some z∧Nr (.lst (W (S:=S) e) (((l.drop off).take len).map (en e))) z.1∧ ∀i∈z.2,dead H i ∨ ∃p,q p=some (some i):=by
   intro vs hvs hall
   subst hvs
   obtain ⟨z,k1,k2,k3⟩:=eachE_els (m:=m) ((hall.drop off).take len)
   rw [← List.map_drop, ← List.map_take] at k2
   refine ⟨(.lst (W (S:=S) e) z.1,id::z.2),by simp only [frz,Eff.run,h2];rw [if_pos hol,run_bindE,k1];rfl,Nr.mk_lst k2,fun i hi=> ?_⟩
   simp at hi
   rcases hi with rfl | hi
   ·exact .inr ⟨[],h1⟩
   ·exact k3 i hi
  cases ho:isOwn e with
  | false=>
   rcases h.els ho with ⟨c1,_⟩ | ⟨id',es',c1,c2,c3⟩
   ·rw [h1] at c1;cases c1
   ·rw [h1] at c1;cases c1
    rw [h2] at c2;cases c2
    refine fin _ rfl (All2.of (by rw [List.length_map];exact c3.1.symm) fun i a d ha hd=> ?_)
    rw [List.getElem?_map,Option.map_eq_some_iff] at ha
    obtain ⟨v,hv,rfl⟩:=ha
    obtain ⟨d',e1,e2⟩:=c3.2 i v hv
    rw [hd] at e1;cases e1
    exact cls_each (by omega) e2
  | true=>
   cases e with
   | own e=>
    rcases RowB.elts h with ⟨c1,_⟩ | ⟨id',es',c1,c2,c3,c4⟩
    ·rw [h1] at c1;cases c1
    ·rw [h1] at c1;cases c1
     have h2':hat H id= .row 1 es true:=h2
     rw [h2'] at c2;cases c2
     refine fin _ rfl (All2.of (by rw [List.length_map];exact c3.symm) fun i a d ha hd=> ?_)
     rw [List.getElem?_map,Option.map_eq_some_iff] at ha
     obtain ⟨v,hv,rfl⟩:=ha
     obtain ⟨ds,e1,y,e2,rfl,e4⟩:=c4 i v hv
     rw [hd] at e1;cases e1
     obtain ⟨m',rfl⟩: ∃m',m=m'+1:=by
      simp only [dp] at hm
      exact ⟨m-1,by omega⟩
     have hrec:=row_fz (m:=m') e4 (by simp only [dp] at hm;omega)
     rcases e4.top with ⟨t1,t2⟩ | ⟨id2,es2,t1,t2,t3⟩
     ·have t1:q [i]=some none:=t1
      rw [e2] at t1;cases t1
      refine ⟨([.nil],[]),rfl,⟨?_,trivial⟩,by simp⟩
      have:v= []:=t2
      subst this
      exact Nr.mk_nil
     ·have t1':q [i]=some (some id2):=t1
      rw [e2] at t1';cases t1'
      obtain ⟨z,k1,k2,k3⟩:=hrec id2 es2 t1 t2 0 (List.length v) (by rw [t3];simp)
      refine ⟨([z.1],z.2),by simp [eachC,run_bindE,refD,k1,Eff.run],⟨?_,trivial⟩,fun j hj=>(k3 j hj).elim .inl fun ⟨p,hp⟩=> .inr ⟨i::p,hp⟩⟩
      have e5:((v:List (T S e)).drop 0).take (List.length v)=v:=by rw [List.drop_zero,List.take_of_length_le (Nat.le_refl _)]
      rw [e5] at k2
      exact k2
   | _=>cases ho
def Own (ρ:Rho) (i:Nat):Prop:= ∃o p,ρ o p=some (some i)
def gA (t:TS S):Getter S
 | .one n c' v,c=>(match Nat.ble n 11 with
  | true=>conv c' c v
  | false=>none)
 | .nil,.list _=>some []
 | .whole o p,c=>(match p,look t.hp o with
  | [],some (.row n e l)=>(match Nat.ble (n+dp e+1) 11 with
   | true=>conv (.list e) c l
   | false=>none)
  | _,_=>none)
 | .win o p off len,c=>(match p,look t.hp o with
  | [],some (.row n e l)=>(match Nat.ble (n+dp e+1) 11 with
   | true=>conv (.list e) c ((l.drop off).take len)
   | false=>none)
  | _,_=>none)
 | _,_=>none
theorem gA_ok (h:RelR fr b N ρ t s) {v:Val S} {c:Code} {x:T S c} {ds:List D} (hg:gA t v c=some x) (k:VC ρ s.hp v ds):All2 (FzR (Own ρ) s.hp) (en c x) ds:=by
 unfold gA at hg
 split at hg
 ·split at hg
  ·rename_i hn
   rw [(conv_ok hg).1]
   exact All2.mono k fun _ _ _ q=>q.fz (Nat.le_of_ble_eq_true hn)
  ·cases hg
 ·cases hg
  obtain ⟨d,rfl,e⟩:=k
  obtain rfl:d= .nil:=e
  exact ⟨⟨(.nil,[]),rfl,Nr.mk_nil,by simp⟩,trivial⟩
 ·rename_i c' o p
  split at hg
  ·rename_i n e l ho
   split at hg
   ·rename_i hn
    have hn:=Nat.le_of_ble_eq_true hn
    obtain ⟨d,rfl,k⟩:=k
    rw [(conv_ok hg).1]
    refine ⟨?_,trivial⟩
    have hrow:RowR s.hp n e (ρ o) l:=h.hp _ _ ho
    rcases k with ⟨id,sz,es,c1,c2,rfl⟩ | ⟨c1,rfl⟩
    ·rcases hrow.top with ⟨t1,_⟩ | ⟨id',es',t1,t2,t3⟩
     ·rw [c1] at t1;cases t1
     ·rw [c1] at t1;cases t1
      rw [c2] at t2;cases t2
      obtain ⟨z,k1,k2,k3⟩:=row_fz (m:=10) hrow (by omega) id es c1 c2 0 es.length (by simp)
      rw [List.drop_zero,List.take_of_length_le (by rw [t3];exact Nat.le_refl _)] at k2
      exact ⟨z,k1,k2,fun i hi=>(k3 i hi).elim .inl fun ⟨p,hp⟩=> .inr ⟨o,p,hp⟩⟩
    ·rcases hrow.top with ⟨_,t2⟩ | ⟨id',es',t1,t2,t3⟩
     ·subst t2
      exact ⟨(.nil,[]),rfl,Nr.mk_nil,by simp⟩
     ·rw [c1] at t1;cases t1
   ·cases hg
  ·cases hg
 ·rename_i c' o p off len
  split at hg
  ·rename_i n e l ho
   split at hg
   ·rename_i hn
    have hn:=Nat.le_of_ble_eq_true hn
    obtain ⟨d,rfl,k⟩:=k
    rw [(conv_ok hg).1]
    refine ⟨?_,trivial⟩
    have hrow:RowR s.hp n e (ρ o) l:=h.hp _ _ ho
    rcases k with ⟨id,sz,es,c1,c2,c3,rfl⟩ | ⟨c1,rfl,rfl,rfl⟩
    ·rcases hrow.top with ⟨t1,_⟩ | ⟨id',es',t1,t2,t3⟩
     ·rw [c1] at t1;cases t1
     ·rw [c1] at t1;cases t1
      rw [c2] at t2;cases t2
      obtain ⟨z,k1,k2,k3⟩:=row_fz (m:=10) hrow (by omega) id es c1 c2 off len c3
      exact ⟨z,k1,k2,fun i hi=>(k3 i hi).elim .inl fun ⟨p,hp⟩=> .inr ⟨o,p,hp⟩⟩
    ·rcases hrow.top with ⟨_,t2⟩ | ⟨id',es',t1,t2,t3⟩
     ·subst t2
      exact ⟨(.nil,[]),rfl,Nr.mk_nil,by simp⟩
     ·rw [c1] at t1;cases t1
   ·cases hg
  ·cases hg
 ·cases hg
theorem FzR.int {P:Nat→Prop} (k:IntKind) (z:Int):FzR P H (.int k z) (.int k z):=⟨(.int k z,[]),rfl,rfl,by simp⟩
def gF (t:TS S) (own:Bool):Getter S:=match own with
 | true=>gA t
 | false=>gC 11
theorem gF_ok (h:RelR fr b N ρ t s) {own:Bool} {v:Val S} {c:Code} {x:T S c} {ds:List D} (hg:gF t own v c=some x) (k:VC ρ s.hp v ds):All2 (FzR (fun i=>own=true∧Own ρ i) s.hp) (en c x) ds:=by
 cases own with
 | true=>exact All2.mono (gA_ok h hg k) fun _ _ _ ⟨z,h1,h2,h3⟩=>⟨z,h1,h2,fun i hi=>(h3 i hi).imp id fun q=>⟨rfl,q⟩⟩
 | false=>exact All2.mono (gC_ok (by omega) hg k) fun _ _ _ q=>q.fz (Nat.le_refl _)
inductive PK where
 | val (c:Code)
 | ptr (c:Code)
 | fn (n:Nat)
def pcs:List PK→List Code
 | []=> []
 | .val c::ps=>c::pcs ps
 | .ptr c::ps=>c::pcs ps
 | .fn _::ps=>pcs ps
def pVals:(ps:List PK)→Flds S (pcs ps)→List (Val S)
 | [],_=> []
 | .val c::ps,p=> .one 1 c p.1::pVals ps p.2
 | .ptr c::ps,p=> .fp 1 c p.1 0::pVals ps p.2
 | .fn n::ps,p=> .fn n::pVals ps p
def noRho:Rho:=fun _ _=>none
def valAK (t:TS S) (own:Bool) (c:Code) (x:PX):Option (T S c):=match evK t x with
 | some v=>(match slotV v with
  | some (f,vs)=>(match beqB f (isAgg c) with
   | true=>mkT (gF t own) fuelT c vs
   | false=>none)
  | none=>none)
 | none=>none
def ptrA (t:TS S) (own:Bool) (c:Code) (x:PX):Option (T S c):=match evK t x with
 | some (.fp n c' v j)=>(match Nat.beq j 0&&Nat.ble n 11 with
  | true=>conv c' c v
  | false=>none)
 | some (.ptr o p i j)=>(match p,own&&Nat.beq i 0&&Nat.beq j 0,look t.hp o with
  | [],true,some (.box pn vs)=>mkT (gF t own) fuelT c vs
  | _,_,_=>none)
 | _=>none
def argsA (t:TS S) (own:Bool):(ps:List PK)→List (Nat×PX)→Option (Flds S (pcs ps))
 | [],[]=>some ()
 | .val c::ps,(m,x)::as=>(match Nat.beq m 0,valAK t own c x,argsA t own ps as with
  | true,some v,some p=>some (v,p)
  | _,_,_=>none)
 | .ptr c::ps,(m,x)::as=>(match Nat.beq m 0,ptrA t own c x,argsA t own ps as with
  | true,some v,some p=>some (v,p)
  | _,_,_=>none)
 | .fn n::ps,(m,x)::as=>(match Nat.beq m 0,evK t x with
  | true,some (.fn k)=>(match Nat.beq k n with
   | true=>argsA t own ps as
   | false=>none)
  | _,_=>none)
 | _,_=>none
theorem beqB_eq {a c:Bool} (h:beqB a c=true):a=c:=by cases a<;>cases c<;>first | rfl | cases h
theorem nr_cl {v d:D} (hv:cellD v=true) (h:Nr v d):Cl H 1 v d:=by
 refine Cl.plain ?_ h
 cases v with
 | lst sz es=>rcases h with ⟨_,rfl⟩ | ⟨_,rfl,_⟩<;>rfl
 | int _ _=>rw [show d=_ from h];rfl
 | bool _=>rw [show d=_ from h];rfl
 | flt _=>rw [show d=_ from h];rfl
 | str _=>rw [show d=_ from h];rfl
 | _=>cases hv
theorem nrs_cl {c:Code} {v:T S c} {ds:List D} (h:All2 Nr (en c v) ds):All2 (Cl H 1) (en c v) ds:=h.mono fun a d ha q=>nr_cl (en_cell c v a ha) q
theorem valA_okK (h:RelR fr b N ρ t s) {own:Bool} {c:Code} {x:PX} {v:T S c} (hv:valAK t own c x=some v) :
  ∃z,(frz fuelF (x.ev s.ts)).run s.hp=some z∧VS noRho [] (.one 1 c v) z.1∧(∀i∈z.2,dead s.hp i∨(own=true∧Own ρ i)):=by
 unfold valAK at hv
 split at hv
 ·rename_i w hw
  split at hv
  ·rename_i f vs hs
   split at hv
   ·rename_i hf
    obtain rfl:=beqB_eq hf
    obtain ⟨ds,k1,k2,k3⟩:=slotV_ok hs (h.ev hw)
    have k4:=mkT_ok (R:=FzR (fun i=>own=true∧Own ρ i) s.hp) (fun k z=>FzR.int k z) (fun v c x ds hg k=>gF_ok h hg k) hv k1
    cases hc:isAgg c with
    | true=>
     obtain ⟨z,q1,q2,q3⟩:=FzR.each k4
     rw [k2 hc]
     refine ⟨(.agg z.1,z.2),by simp only [fuelF,frz,run_bindE,q1,Option.bind_some,Eff.run],?_,q3⟩
     simp only [VS,VSx,hc]
     exact ⟨_,rfl,nrs_cl q2⟩
    | false=>
     have e:=k3 hc
     subst e
     have hl:=k4.len
     rw [encs_len] at hl
     cases hen:en c v with
     | nil=>rw [hen] at k4;exact k4.elim
     | cons a as=>
      have k5:=k4
      rw [hen] at k5
      obtain ⟨⟨z,q1,q2,q3⟩,q4⟩:=k5
      refine ⟨z,frz_up q1 (by decide),?_,q3⟩
      simp only [VS,VSx,hc]
      refine nrs_cl ?_
      rw [hen]
      refine ⟨q2,?_⟩
      cases as with
      | nil=>trivial
      | cons _ _=>exact q4.elim
   ·cases hv
  ·cases hv
 ·cases hv
theorem ptrA_ok (h:RelR fr b N ρ t s) {own:Bool} {c:Code} {x:PX} {v:T S c} (hv:ptrA t own c x=some v) :
  ∃z,(frz fuelF (x.ev s.ts)).run s.hp=some z∧VS noRho [] (.fp 1 c v 0) z.1∧(∀i∈z.2,dead s.hp i∨(own=true∧Own ρ i)):=by
 unfold ptrA at hv
 split at hv
 ·rename_i n c' v' j hx
  split at hv
  ·rename_i hn
   simp only [Bool.and_eq_true] at hn
   obtain rfl:=Nat.eq_of_beq_eq_true hn.1
   have hn:=Nat.le_of_ble_eq_true hn.2
   obtain ⟨r,k⟩:=(h.ev hx).fp
   obtain ⟨z,q1,q2,q3⟩:=k.frz
   refine ⟨z,frz_up q1 (by simp only [fuelF];omega),?_,fun i hi=> .inl (q3 i hi)⟩
   obtain ⟨ds,e,q4⟩:=q2.fptr
   rw [e]
   obtain ⟨a,a',rfl,q5,q6⟩:=All2.split q4
   refine ⟨a',?_⟩
   refine Cl.plain rfl (Nr.mk_fptr ?_)
   rw [(conv_ok hv).1]
   exact All2.append q5 (by
    have: ∀l:List D,All2 Nr l l:=fun l=>by
     induction l with
     | nil=>trivial
     | cons a l ih=>exact ⟨Nr.rfl' a,ih⟩
    exact this a')
  ·cases hv
 ·rename_i o p i j hx
  split at hv
  ·rename_i vs hc ho
   simp only [Bool.and_eq_true] at hc
   obtain ⟨⟨hown,hi⟩,hj⟩:=hc
   obtain rfl:=Nat.eq_of_beq_eq_true hi
   obtain rfl:=Nat.eq_of_beq_eq_true hj
   obtain ⟨id,sz,es,c1,c2,c3,c4⟩:=h.ev hx
   obtain ⟨id',ds,k1,k2,k3,k9⟩:=h.hp _ _ ho
   rw [c1] at k1;cases k1
   rw [c2] at k2;cases k2
   have k4:=mkT_ok (R:=FzR (fun i=>own=true∧Own ρ i) s.hp) (fun k z=>FzR.int k z) (fun v c x ds hg k=>gF_ok h hg k) hv k3
   obtain ⟨z,q1,q2,q3⟩:=FzR.each k4
   refine ⟨(.fptr z.1,id::z.2),?_,⟨[],by rw [List.drop_zero,List.append_nil];exact Cl.plain rfl (Nr.mk_fptr q2)⟩,fun i hi=> ?_⟩
   ·rw [c4,Nat.zero_mul,Nat.zero_add]
    simp only [fuelF,frz,Eff.run,c2,Nat.zero_div,Nat.zero_mod,List.getElem?_cons_zero,List.drop_zero,run_bindE,q1,Option.bind_some]
   ·simp at hi
    rcases hi with rfl | hi
    ·exact .inr ⟨hown,o,[],c1⟩
    ·exact q3 i hi
  ·cases hv
 ·cases hv
theorem argsA_ok (h:RelR fr b N ρ t s) {own:Bool}: ∀ {ps:List PK} {as:List (Nat×PX)} {p:Flds S (pcs ps)} {j:Nat},argsA t own ps as=some p →
  ∃ds ids,(prep (as.map fun p=>(p.1,p.2.ev s.ts)) j).run s.hp=some ⟨ds,[],ids,[]⟩∧All2 (VS noRho []) (pVals ps p) ds∧ ∀i∈ids,dead s.hp i∨(own=true∧Own ρ i)
 | [],[],p,j,_=>⟨[],[],rfl,trivial,by simp⟩
 | .val c::ps,(m,x)::as,p,j,hp=>by
  simp only [argsA] at hp
  split at hp
  ·rename_i v q hm hv hq
   cases hp
   obtain rfl:=Nat.eq_of_beq_eq_true hm
   obtain ⟨z,h1,h2,h3⟩:=valA_okK h hv
   obtain ⟨ds,ids,h4,h5,h6⟩:=argsA_ok h (j:=j) hq
   refine ⟨z.1::ds,z.2++ids,by simp only [List.map_cons,prep,run_bindE,h1,h4,Option.bind_some,Eff.run],⟨h2,h5⟩,fun i hi=> ?_⟩
   simp at hi
   exact hi.elim (h3 i) (h6 i)
  ·cases hp
 | .ptr c::ps,(m,x)::as,p,j,hp=>by
  simp only [argsA] at hp
  split at hp
  ·rename_i v q hm hv hq
   cases hp
   obtain rfl:=Nat.eq_of_beq_eq_true hm
   obtain ⟨z,h1,h2,h3⟩:=ptrA_ok h hv
   obtain ⟨ds,ids,h4,h5,h6⟩:=argsA_ok h (j:=j) hq
   refine ⟨z.1::ds,z.2++ids,by simp only [List.map_cons,prep,run_bindE,h1,h4,Option.bind_some,Eff.run],⟨h2,h5⟩,fun i hi=> ?_⟩
   simp at hi
   exact hi.elim (h3 i) (h6 i)
  ·cases hp
 | .fn n::ps,(m,x)::as,p,j,hp=>by
  simp only [argsA] at hp
  split at hp
  ·rename_i k hm hx
   split at hp
   ·rename_i hk
    obtain rfl:=Nat.eq_of_beq_eq_true hm
    obtain rfl:=Nat.eq_of_beq_eq_true hk
    have e:x.ev s.ts= .fn k:=h.ev hx
    obtain ⟨ds,ids,h4,h5,h6⟩:=argsA_ok h (j:=j) hp
    refine ⟨.fn k::ds,ids,?_,⟨rfl,h5⟩,h6⟩
    simp only [List.map_cons,prep,run_bindE,e,fuelF,frz,h4,Option.bind_some,Eff.run,List.nil_append]
   ·cases hp
  ·cases hp
 | [],_::_,_,_,hp | .val _::_,[],_,_,hp | .ptr _::_,[],_,_,hp | .fn _::_,[],_,_,hp=>nomatch hp
end
end Go.Pi
namespace Go.Pi
set_option linter.unusedVariables false
def tupD:D→Bool
 | .tup _=>true
 | _=>false
inductive RK where
 | val (c:Code)
 | own (c:Code)
 | cl (c:Code)
 | fp (c:Code)
def rcs:List RK→List Code
 | []=> []
 | .val c::rs=>c::rcs rs
 | .own c::rs=> .list c::rcs rs
 | .cl c::rs=> .list c::rcs rs
 | .fp c::rs=>c::rcs rs
def tpR:List RK→Bool
 | [_]=>false
 | _=>true
section
variable {S:Nat→Type} [Sg:Sig S] {ρ ρ':Rho} {H H':Heap} {fr:Fr} {b N:Nat} {t:TS S} {s g:St} {α:Type}
def OwnX (c:Code) (l:List (T S c)) (x:D):Prop:=(x= .nil∧l= []) ∨ ∃es,x= .own (W (S:=S) c) es∧Els [] 1 c l es
def ResX:(rs:List RK)→Flds S (rcs rs)→List D→Prop
 | [],_,xs=>xs= []
 | .val c::rs,p,x::xs=>VS noRho [] (.one 1 c p.1) x∧ResX rs p.2 xs
 | .own c::rs,p,x::xs=>OwnX c p.1 x∧ResX rs p.2 xs
 | .cl c::rs,p,x::xs=>(VS noRho [] (.one 1 (.list c) p.1) x∨OwnX c p.1 x)∧ResX rs p.2 xs
 | .fp c::rs,p,x::xs=>VS noRho [] (.fp 1 c p.1 0) x∧ResX rs p.2 xs
 | _::_,_,[]=>False
def FOk (pr:Prog) (f:Nat) (ps:List PK) (rs:List RK) (F:Flds S (pcs ps)→Option (Flds S (rcs rs))):Prop:=
 ∀p r,F p=some r→ ∀ds,All2 (VS noRho []) (pVals ps p) ds→Runs pr f ds [] fun d H'=>tupD d=tpR rs∧ ∃xs hs rd,expL H' (comps d)=some (xs,hs,rd)∧nodup hs=true∧apart hs rd=true∧ResX rs r xs
def LOk (pr:Prog) (f:Nat) (c:Code) (ps:List PK) (rs:List RK) (F:T S c×Flds S (pcs ps)→Option (T S c×Flds S (rcs rs))):Prop:=
 ∀p r,F p=some r→ ∀cs ds,All2 (Cl [] 1) (en c p.1) cs→All2 (VS noRho []) (pVals ps p.2) ds→Runs pr f (.ptr 0 0::ds) [.row (W (S:=S) c) [cs] true] fun d H'=>tupD d=tpR rs∧ ∃xs hs rd cs2 ry,expL H' (comps d)=some (xs,hs,rd)∧nodup hs=true∧apart hs rd=true∧ResX rs r.2 xs ∧
  expB H' 0 [(0,true)]=some ([(0,.row (W (S:=S) c) [cs2] true)],ry)∧All2 (Cl [] 1) (en c r.1) cs2∧apart hs ry=true∧apart hs [0]=true∧apart [0] rd=true∧apart [0] ry=true
theorem RelR.freshK (h:RelR fr b N ρ t g) {r:Nat} {k:Blk} (hr:t.av.contains r=true) :
  RelR fr b N ρ (t.take r) ⟨g.ts,g.hp.set (b+r) k⟩∧Ext ρ g.hp ρ (g.hp.set (b+r) k)∧hat (g.hp.set (b+r) k) (b+r)=k ∧
   (∀o p,ρ o p≠some (some (b+r)))∧fr (b+r)=none∧hat g.hp (b+r)= .fresh∧b+r<g.hp.length:=by
 have hm:r∈t.av:=by simpa using hr
 obtain ⟨hn,ha⟩:=h.avl
 obtain ⟨h1,h2,h3⟩:=ha r hm
 have hnot: ∀o p,ρ o p≠some (some (b+r)):=fun o p e=>by
  obtain ⟨_,_,_,k⟩:=h.liv _ _ _ e
  rw [h1] at k
  cases k
 have hne: ∀ {j:Nat},j≠b+r→hat (g.hp.set (b+r) k) j=hat g.hp j:=fun hj=>by rw [hat_setK h2,if_neg hj]
 have hx:Ext ρ g.hp ρ (g.hp.set (b+r) k):=⟨HLe_set (fun _ _ e=>by rw [h1] at e;cases e),fun _ _ _ h=>h,fun o p id sz' es' k1 k2=>
  ⟨es',by rw [hne (fun e=>by subst e;exact hnot _ _ k1)];exact k2,rfl⟩⟩
 refine ⟨⟨h.len,fun i v hv=>(h.sl i v hv).ext hx,fun o ob ho=>ObjR.ext hx (fun p id k=>hne (fun e=>by subst e;exact hnot _ _ k)) (h.hp _ _ ho),h.inj,fun o p id k=> ?_,h.nxt,fun id k hk=> ?_,?_⟩,hx,by rw [hat_setK h2,if_pos rfl],hnot,h3,h1,h2⟩
 ·obtain ⟨k1,sz',es',k2⟩:=h.liv _ _ _ k
  exact ⟨k1,sz',es',by rw [hne (fun e=>by subst e;exact hnot _ _ k)];exact k2⟩
 ·obtain ⟨k1,k2⟩:=h.frm _ _ hk
  refine ⟨by rw [hne (fun e=>by subst e;rw [h3] at hk;cases hk)];exact k1,by simpa using k2⟩
 ·refine ⟨hn.erase r,fun r' hr'=> ?_⟩
  obtain ⟨k1,k2⟩:=(List.Nodup.mem_erase_iff hn).mp (show r'∈t.av.erase r from hr')
  obtain ⟨k3,k4,k5⟩:=ha r' k2
  exact ⟨by rw [hne (by omega)];exact k3,by simpa using k4,k5⟩
def impT:(rs:List RK)→Flds S (rcs rs)→Nat→TS S→Option (List (Val S)×TS S)
 | [],_,_,t=>some ([],t)
 | .val c::rs,p,k,t=>(match impT rs p.2 (k+1) t with
  | some q=>some (.one 1 c p.1::q.1,q.2)
  | none=>none)
 | .fp c::rs,p,k,t=>(match impT rs p.2 (k+1) t with
  | some q=>some (.fp 1 c p.1 0::q.1,q.2)
  | none=>none)
 | .own c::rs,p,k,t=>(match t.av.contains k && !isOwn c with
  | true=>(match impT rs p.2 (k+1) ((t.take k).add (.row 1 c p.1)) with
   | some q=>some (.whole t.nx []::q.1,q.2)
   | none=>none)
  | false=>none)
 | .cl c::rs,p,k,t=>(match t.av.contains k&&Nat.blt 0 (W (S:=S) c) with
  | true=>(match impT rs p.2 (k+1) { t.take k with gh:=true } with
   | some q=>some (.one 2 (.list c) p.1::q.1,q.2)
   | none=>none)
  | false=>none)
theorem HLe.nil (H:Heap):HLe [] H:=fun id sz es h=>by simp [hat] at h
theorem Ext.tr {ρ1 ρ2 ρ3:Rho} {H1 H2 H3:Heap} (h:Ext ρ1 H1 ρ2 H2) (k:Ext ρ2 H2 ρ3 H3):Ext ρ1 H1 ρ3 H3:=⟨h.hle.tr k.hle,fun o p x q=>k.map _ _ _ (h.map _ _ _ q),fun o p id sz es q1 q2=>by
 obtain ⟨es',e1,e2⟩:=h.row _ _ _ _ _ q1 q2
 obtain ⟨es2,e3,e4⟩:=k.row _ _ _ _ _ (h.map _ _ _ q1) e1
 exact ⟨es2,e3,e4.trans e2⟩⟩
theorem VS.fromNo {v:Val S} {d:D} (h:VS noRho [] v d):VS ρ H v d:=h.ext ⟨HLe.nil H,(fun _ _ _ h=>by cases h),(fun _ _ _ _ _ h=>by cases h)⟩
theorem cl_notown {n:Nat} {v:D} {sz:Nat} {es:List (List D)} (h:Cl H n v (.own sz es)) (hv:cellD v=true):False:=by
 have:=cl_one hv h
 cases this
theorem VS.notown {n:Nat} {c:Code} {v:T S c} {sz:Nat} {es:List (List D)} (h:VS (S:=S) ρ H (.one n c v) (.own sz es)):False:=by
 simp only [VS,VSx] at h
 split at h
 ·obtain ⟨_,e,_⟩:=h;cases e
 ·cases hen:en c v with
  | nil=>rw [hen] at h;exact h
  | cons a as=>
   have hc:=en_cell c v a (by rw [hen];simp)
   rw [hen] at h
   exact cl_notown h.1 hc
theorem imp1_no {r:Nat} {x:D} (h: ∀sz es,x ≠ .own sz es):imp1 r x=(x,[]):=by
 cases x<;>first | rfl | exact absurd rfl (h _ _)
theorem VS.toVSx {v:Val S} {d:D} (hv: ∀vs,v ≠ .tup vs) (h:VS ρ H v d):VSx ρ H v d:=by
 cases v with
 | tup vs=>exact absurd rfl (hv vs)
 | _=>exact h
theorem RelR.insX (h:RelR fr b N ρ t g) (q:List Nat→Option (Option Nat)) (H:Heap):Ext ρ H (ins ρ t.nx q) H:=⟨HLe.refl _,fun o p x hx=>by
  rw [ins_ne (fun e=>by subst e;rw [h.nxt _ _ (Nat.le_refl _)] at hx;cases hx)]
  exact hx,fun o p id sz es _ he=>⟨es,he,rfl⟩⟩
theorem RelR.newX (h:RelR fr b N ρ t g) {q:Nat} {e:Code} {l:List (T S e)} {x:D} (hq:t.av.contains q=true) (he:isOwn e=false) {es:List (List D)} (hes:Els [] 1 e l es) :
  ∃ρ',RelR fr b N ρ' ((t.take q).add (.row 1 e l)) ⟨g.ts,g.hp.set (b+q) (.row (W (S:=S) e) es true)⟩∧Ext ρ g.hp ρ' (g.hp.set (b+q) (.row (W (S:=S) e) es true))∧ρ' t.nx []=some (some (b+q))∧hat (g.hp.set (b+q) (.row (W (S:=S) e) es true)) (b+q)= .row (W (S:=S) e) es true:=by
 obtain ⟨k1,k2,k3,k4,k5,k6,k7⟩:=h.freshK (r:=q) (k:= .row (W (S:=S) e) es true) hq
 have hnx:(t.take q).nx=t.nx:=rfl
 refine ⟨ins ρ t.nx (at0 (some (b+q))),k1.addObj (q:=at0 (some (b+q))) (fun p p' id e1 e2=>by rw [(at0_some e1).1,(at0_some e2).1]) (fun p id e=> ?_) (fun hx=> ?_),k2.tr (h.insX _ _),by rw [ins_eq];rfl,k3⟩
 ·obtain ⟨rfl,e⟩:=at0_some e
  cases e
  exact ⟨k4,k5,_,es,k3⟩
 ·exact RowR.of_els he (by rw [hnx,ins_eq];rfl) k3 (hes.mono (Nat.le_refl _) (HLe.nil _))
theorem RelR.newNX (h:RelR fr b N ρ t g) (q:Nat) {e:Code}: ∃ρ',RelR fr b N ρ' ((t.take q).add (.row 1 e [])) g∧Ext ρ g.hp ρ' g.hp∧ρ' t.nx []=some none:=by
 have hnx:(t.take q).nx=t.nx:=rfl
 refine ⟨_,(h.takeR q).addObj (q:=at0 none) (fun p p' id e=> ?_) (fun p id e=> ?_) (fun hx=>RowR.of_nil (by rw [hnx,ins_eq];rfl)),h.insX _ _,by rw [hnx,ins_eq];rfl⟩
 ·cases (at0_some e).2
 ·cases (at0_some e).2
theorem RelR.ghT (h:RelR fr b N ρ t g) (x:Bool):RelR fr b N ρ { t with gh:=x } g:=⟨h.len,h.sl,h.hp,h.inj,h.liv,h.nxt,h.frm,h.avl⟩
theorem els_cl {n:Nat} {c:Code} {l:List (T S c)} {es:List (List D)} (h:Els H n c l es):All2 (All2 (Cl H n)) (l.map (en c)) es:=by
 refine All2.of (by rw [List.length_map];exact h.1.symm) (fun i a d ha hd=> ?_)
 rw [List.getElem?_map,Option.map_eq_some_iff] at ha
 obtain ⟨z,hz,rfl⟩:=ha
 obtain ⟨d',h1,h2⟩:=h.2 i z hz
 rw [hd] at h1
 cases h1
 exact h2
theorem els_len {n:Nat} {c:Code} {l:List (T S c)} {es:List (List D)} (h:Els H n c l es): ∀d∈es,d.length≤W (S:=S) c:=fun d hd=>by
 obtain ⟨i,hi,rfl⟩:=List.mem_iff_getElem.mp hd
 obtain ⟨d',h1,h2⟩:=h.2 i (l[i]'(by rw [← h.1];exact hi)) (List.getElem?_eq_getElem _)
 rw [List.getElem?_eq_getElem hi] at h1
 cases h1
 rw [← h2.len,encs_len]
 exact Nat.le_refl _
theorem imp_ok: ∀ {rs:List RK} {p:Flds S (rcs rs)} {xs:List D} {k:Nat} {t:TS S} {s g:St} {ρ:Rho} {q:List (Val S)×TS S},ResX rs p xs→GhK s g→RelR fr b N ρ t g→impT rs p k t=some q →
  ∃g' ρ',GhK ⟨s.ts,doWs s.hp (impL (b+k) xs).2⟩ g'∧RelR fr b N ρ' q.2 g'∧Ext ρ g.hp ρ' g'.hp∧All2 (VSx ρ' g'.hp) q.1 (impL (b+k) xs).1∧(∀id∈(impL (b+k) xs).2.map (·.1),hat s.hp id= .fresh∧id<s.hp.length)
 | [],p,xs,k,t,s,g,ρ,q,hx,hg,h,hi=>by
  cases hi
  rw [show xs= [] from hx]
  exact ⟨g,ρ,hg,h,Ext.refl _ _,trivial,fun id hid=>nomatch hid⟩
 | .val c::rs,p,x::xs,k,t,s,g,ρ,q,hx,hg,h,hi=>by
  simp only [impT] at hi
  split at hi
  ·rename_i q' hq
   cases hi
   obtain ⟨g',ρ',k1,k2,k3,k4,k5⟩:=imp_ok hx.2 hg h hq
   have e:imp1 (b+k) x=(x,[]):=imp1_no fun sz es e=>by
    have:=hx.1
    rw [e] at this
    exact this.notown
   refine ⟨g',ρ',?_,k2,k3,?_,?_⟩
   ·simp only [impL,e,List.nil_append];exact k1
   ·simp only [impL,e]
    exact ⟨(hx.1.fromNo (ρ:=ρ') (H:=g'.hp)).toVSx (fun _ e=>nomatch e),k4⟩
   ·simp only [impL,e,List.nil_append];exact k5
  ·cases hi
 | .fp c::rs,p,x::xs,k,t,s,g,ρ,q,hx,hg,h,hi=>by
  simp only [impT] at hi
  split at hi
  ·rename_i q' hq
   cases hi
   obtain ⟨g',ρ',k1,k2,k3,k4,k5⟩:=imp_ok hx.2 hg h hq
   have e:imp1 (b+k) x=(x,[]):=imp1_no fun sz es e=>by
    obtain ⟨r,hr⟩:=hx.1.fp
    rw [e] at hr
    have:=fp_one hr
    cases this
   refine ⟨g',ρ',?_,k2,k3,?_,?_⟩
   ·simp only [impL,e,List.nil_append];exact k1
   ·simp only [impL,e]
    exact ⟨(hx.1.fromNo (ρ:=ρ') (H:=g'.hp)).toVSx (fun _ e=>nomatch e),k4⟩
   ·simp only [impL,e,List.nil_append];exact k5
  ·cases hi
 | .own c::rs,p,x::xs,k,t,s,g,ρ,q,hx,hg,h,hi=>by
  simp only [impT] at hi
  split at hi
  ·rename_i hc
   simp only [Bool.and_eq_true,Bool.not_eq_true'] at hc
   split at hi
   ·rename_i q' hq
    cases hi
    rcases hx.1 with ⟨rfl,hl⟩ | ⟨es,rfl,hes⟩
    ·rw [hl] at hq
     obtain ⟨ρ1,z1,z3,z2⟩:=h.newNX k (e:=c)
     obtain ⟨g',ρ',k1,k2,k3,k4,k5⟩:=imp_ok hx.2 hg z1 hq
     exact ⟨g',ρ',k1,k2,z3.tr k3,⟨(wholeN_ok (k3.map _ _ _ z2)).toVSx (fun _ e=>nomatch e),k4⟩,k5⟩
    ·obtain ⟨ρ1,z1,z3,z2,z4⟩:=h.newX (x:= .nil) hc.1 hc.2 hes
     have hg1:GhK ⟨s.ts,s.hp.set (b+k) (.row (W (S:=S) c) es true)⟩ ⟨g.ts,g.hp.set (b+k) (.row (W (S:=S) c) es true)⟩:=⟨hg.ts,gh_set hg.hp _ _⟩
     obtain ⟨g',ρ',k1,k2,k3,k4,k5⟩:=imp_ok hx.2 hg1 z1 hq
     have hm:k∈t.av:=by simpa using hc.1
     obtain ⟨f1,f2,_⟩:=h.avl.2 k hm
     have f2':b+k<s.hp.length:=by rw [hg.hp.1];exact f2
     have f1':hat s.hp (b+k)= .fresh:=by
      rcases hg.hp.2 (b+k) with e | ⟨_,_,_,e⟩ | ⟨_,_,_,_,e⟩
      ·rw [← e];exact f1
      ·rw [e] at f1;cases f1
      ·rw [e] at f1;cases f1
     refine ⟨g',ρ',k1,k2,z3.tr k3,⟨?_,k4⟩,fun id hid=> ?_⟩
     ·obtain ⟨es',e1,e2⟩:=k3.row _ _ _ _ _ z2 z4
      exact (whole_ok (k3.map _ _ _ z2) e1 e2).toVSx (fun _ e=>nomatch e)
     ·simp only [impL,imp1,List.cons_append,List.nil_append,List.map_cons,List.mem_cons] at hid
      rcases hid with rfl | hid
      ·exact ⟨f1',f2'⟩
      ·obtain ⟨p1,p2⟩:=k5 id (by simpa [Nat.add_assoc] using hid)
       simp only [hat_setK f2'] at p1
       split at p1
       ·cases p1
       ·exact ⟨p1,by simpa using p2⟩
   ·cases hi
  ·cases hi
 | .cl c::rs,p,x::xs,k,t,s,g,ρ,q,hx,hg,h,hi=>by
  simp only [impT] at hi
  split at hi
  ·rename_i hc
   simp only [Bool.and_eq_true] at hc
   have hw:0<W (S:=S) c:=by simpa using hc.2
   split at hi
   ·rename_i q' hq
    cases hi
    have plainCase: ∀x:D,(∀sz es,x ≠ .own sz es)→ResX rs p.2 xs→(∀(ρ':Rho) (H':Heap),VS (S:=S) ρ' H' (.one 2 (.list c) p.1) x) →
      ∃g' ρ',GhK ⟨s.ts,doWs s.hp (impL (b+k) (x::xs)).2⟩ g'∧RelR fr b N ρ' q'.2 g'∧Ext ρ g.hp ρ' g'.hp∧All2 (VSx ρ' g'.hp) (Val.one 2 (.list c) p.1::q'.1) (impL (b+k) (x::xs)).1∧(∀id∈(impL (b+k) (x::xs)).2.map (·.1),hat s.hp id= .fresh∧id<s.hp.length):=by
     intro x hno hx2 hv
     obtain ⟨g',ρ',k1,k2,k3,k4,k5⟩:=imp_ok hx2 hg ((h.takeR k).ghT true) hq
     have e:=imp1_no (r:=b+k) hno
     refine ⟨g',ρ',?_,k2,k3,?_,?_⟩
     ·simp only [impL,e,List.nil_append];exact k1
     ·simp only [impL,e]
      exact ⟨(hv ρ' g'.hp).toVSx (fun _ e=>nomatch e),k4⟩
     ·simp only [impL,e,List.nil_append];exact k5
    rcases hx.1 with hv | ⟨rfl,hl⟩ | ⟨es,rfl,hes⟩
    ·exact plainCase x (fun sz es e=>by rw [e] at hv;exact hv.notown) hx.2 fun ρ' H'=>VS.mk_lst ((hv.fromNo (ρ:=ρ') (H:=H')).lst.up (by omega))
    ·exact plainCase .nil (fun _ _ e=>nomatch e) hx.2 fun ρ' H'=>VS.mk_lst (by rw [hl];exact Cl.plain rfl Nr.mk_nil)
    ·obtain ⟨z1,z2,z3,z4,z5,z6,z7⟩:=h.freshK (r:=k) (k:= .row (W (S:=S) c) es false) hc.1
     have hg1:GhK ⟨s.ts,s.hp.set (b+k) (.row (W (S:=S) c) es true)⟩ ⟨g.ts,g.hp.set (b+k) (.row (W (S:=S) c) es false)⟩:=⟨hg.ts,by simp [hg.hp.1],fun j=>by
      have f2':b+k<s.hp.length:=by rw [hg.hp.1];exact z7
      rw [hat_setK z7,hat_setK f2']
      split
      ·exact .inr (.inl ⟨_,_,rfl,rfl⟩)
      ·exact hg.hp.2 j⟩
     obtain ⟨g',ρ',k1,k2,k3,k4,k5⟩:=imp_ok hx.2 hg1 (z1.ghT true) hq
     have f2':b+k<s.hp.length:=by rw [hg.hp.1];exact z7
     have f1':hat s.hp (b+k)= .fresh:=by
      rcases hg.hp.2 (b+k) with e | ⟨_,_,_,e⟩ | ⟨_,_,_,_,e⟩
      ·rw [← e];exact z6
      ·rw [e] at z6;cases z6
      ·rw [e] at z6;cases z6
     refine ⟨g',ρ',k1,k2,z2.tr k3,⟨?_,k4⟩,fun id hid=> ?_⟩
     ·have hh:hat g'.hp (b+k)= .row (W (S:=S) c) es false:=k3.hle _ _ _ z3
      refine VS.toVSx (fun _ e=>nomatch e) (VS.mk_lst ?_)
      refine .inr (.inl ⟨_,_,b+k,0,es.length,es,rfl,rfl,hh,by simp,?_,hw,els_len hes⟩)
      rw [List.drop_zero,List.take_of_length_le (Nat.le_refl _)]
      exact els_cl (hes.mono (Nat.le_refl _) (HLe.nil _))
     ·simp only [impL,imp1,List.cons_append,List.nil_append,List.map_cons,List.mem_cons] at hid
      rcases hid with rfl | hid
      ·exact ⟨f1',f2'⟩
      ·obtain ⟨p1,p2⟩:=k5 id (by simpa [Nat.add_assoc] using hid)
       simp only [hat_setK f2'] at p1
       split at p1
       ·cases p1
       ·exact ⟨p1,by simpa using p2⟩
   ·cases hi
  ·cases hi
 | .val _::_,_,[],_,_,_,_,_,_,hx,_,_,_ | .own _::_,_,[],_,_,_,_,_,_,hx,_,_,_ | .cl _::_,_,[],_,_,_,_,_,_,hx,_,_,_ | .fp _::_,_,[],_,_,_,_,_,_,hx,_,_,_=>hx.elim
end
end Go.Pi
namespace Go.Pi
set_option linter.unusedVariables false
section
variable {S:Nat→Type} [Sg:Sig S] {ρ ρ':Rho} {H H':Heap} {fr:Fr} {b N:Nat} {t:TS S} {s g:St} {α:Type} {pr:Prog}
def scC:Nat→Code→Bool
 | 0,_=>false
 | _+1,.list _=>false
 | _+1,.own _=>false
 | f+1,.st i=>(Sg.fields i).all (scC f)
 | _+1,_=>true
theorem scC_ok: ∀ {f:Nat} {c:Code} {v:T S c},scC (S:=S) f c=true→ ∀d∈en c v,sc d=true∧scal d=true
 | 0,_,_,h=>nomatch h
 | f+1,.int _,v,_=>fun d hd=>by simp only [encs,List.mem_singleton] at hd;subst hd;exact ⟨rfl,rfl⟩
 | f+1,.bool,v,_=>fun d hd=>by simp only [encs,List.mem_singleton] at hd;subst hd;exact ⟨rfl,rfl⟩
 | f+1,.flt,v,_=>fun d hd=>by simp only [encs,List.mem_singleton] at hd;subst hd;exact ⟨rfl,rfl⟩
 | f+1,.str,v,_=>fun d hd=>by simp only [encs,List.mem_singleton] at hd;subst hd;exact ⟨rfl,rfl⟩
 | f+1,.arr _ _,v,_=>fun d hd=>by obtain ⟨z,_,rfl⟩:=List.mem_map.mp hd;exact ⟨rfl,rfl⟩
 | f+1,.st i,v,h=>fun d hd=>by
  have hd:d∈Sg.Dd i v:=hd
  rw [Sg.hD] at hd
  have h:(Sg.fields i).all (scC (S:=S) f)=true:=h
  generalize Sg.split i v=p at hd
  generalize Sg.fields i=cs at p h
  induction cs with
  | nil=>cases hd
  | cons c cs ih=>
   simp only [List.all_cons,Bool.and_eq_true] at h
   rcases List.mem_append.mp hd with hd | hd
   ·exact scC_ok h.1 d hd
   ·first | exact ih p.2 h.2 hd | exact ih p.2 hd h.2
 | f+1,.list _,_,h=>nomatch h
 | f+1,.own _,_,h=>nomatch h
def scR:RK→Bool
 | .val c=>scC (S:=S) 9 c
 | .own c=>scC (S:=S) 9 c
 | _=>false
def keeps (rs:List RK):Bool:=rs.all (scR (S:=S))
def valR:RK→Bool
 | .val _=>true
 | .fp _=>true
 | _=>false
theorem sc_eq {n:Nat} {G:Heap}: ∀ {cs ds:List D},(∀d∈cs,sc d=true∧scal d=true)→All2 (Cl G n) cs ds→(ds.all scal)=true
 | [],[],_,_=>rfl
 | c::cs,d::ds,h,k=>by
  have:=k.1.sc (h c (by simp)).1
  subst this
  simp only [List.all_cons,(h d (by simp)).2,Bool.true_and]
  exact sc_eq (fun x hx=>h x (by simp [hx])) k.2
 | [],_::_,_,k | _::_,[],_,k=>k.elim
theorem scal_val {c:Code} {v:T S c} {x:D} (h:scC (S:=S) 9 c=true) (k:VS noRho [] (.one 1 c v) x):scalV x=true:=by
 simp only [VS,VSx] at k
 split at k
 ·obtain ⟨ds,rfl,k⟩:=k
  exact sc_eq (scC_ok h) k
 ·have:=sc_eq (scC_ok h) k
  simp only [List.all_cons,List.all_nil,Bool.and_true] at this
  cases x<;>first | exact this | cases this
theorem keeps_scal: ∀ {rs:List RK} {p:Flds S (rcs rs)} {xs:List D},keeps (S:=S) rs=true→ResX rs p xs→(xs.all scalV)=true
 | [],_,_,_,h=>by rw [show _=_ from h];rfl
 | .val c::rs,p,x::xs,hk,h=>by
  simp only [keeps,List.all_cons,Bool.and_eq_true] at hk
  simp only [List.all_cons,Bool.and_eq_true]
  exact ⟨scal_val hk.1 h.1,keeps_scal hk.2 h.2⟩
 | .own c::rs,p,x::xs,hk,h=>by
  simp only [keeps,List.all_cons,Bool.and_eq_true] at hk
  simp only [List.all_cons,Bool.and_eq_true]
  refine ⟨?_,keeps_scal hk.2 h.2⟩
  rcases h.1 with ⟨rfl,_⟩ | ⟨es,rfl,hes⟩
  ·rfl
  ·simp only [scalV,List.all_eq_true]
   intro e he
   obtain ⟨i,hi,rfl⟩:=List.mem_iff_getElem.mp he
   obtain ⟨d',h1,h2⟩:=hes.2 i (p.1[i]'(by rw [← hes.1];exact hi)) (List.getElem?_eq_getElem _)
   rw [List.getElem?_eq_getElem hi] at h1
   cases h1
   exact List.all_eq_true.mp (sc_eq (scC_ok hk.1) h2)
 | .cl c::rs,p,xs,hk,h=>by simp [keeps,scR] at hk
 | .fp c::rs,p,xs,hk,h=>by simp [keeps,scR] at hk
 | .val _::_,_,[],_,h | .own _::_,_,[],_,h=>h.elim
theorem ResX.len: ∀ {rs:List RK} {p:Flds S (rcs rs)} {xs:List D},ResX rs p xs→xs.length=rs.length
 | [],_,_,h=>by rw [show _=_ from h];rfl
 | .val _::rs,p,x::xs,h | .own _::rs,p,x::xs,h | .cl _::rs,p,x::xs,h | .fp _::rs,p,x::xs,h=>by rw [List.length_cons,List.length_cons,ResX.len h.2]
 | .val _::_,_,[],h | .own _::_,_,[],h | .cl _::_,_,[],h | .fp _::_,_,[],h=>h.elim
theorem val_ws: ∀ {rs:List RK} {p:Flds S (rcs rs)} {xs:List D} {r:Nat},rs.all valR=true→ResX rs p xs→(impL r xs).2= []
 | [],_,_,r,_,h=>by rw [show _=_ from h];rfl
 | .val c::rs,p,x::xs,r,hk,h=>by
  simp only [List.all_cons,Bool.and_eq_true] at hk
  have e:imp1 r x=(x,[]):=imp1_no fun sz es e=>by
   have:=h.1
   rw [e] at this
   exact this.notown
  simp only [impL,e,List.nil_append]
  exact val_ws hk.2 h.2
 | .fp c::rs,p,x::xs,r,hk,h=>by
  simp only [List.all_cons,Bool.and_eq_true] at hk
  have e:imp1 r x=(x,[]):=imp1_no fun sz es e=>by
   obtain ⟨q,hq⟩:=h.1.fp
   rw [e] at hq
   have:=fp_one hq
   cases this
  simp only [impL,e,List.nil_append]
  exact val_ws hk.2 h.2
 | .own _::_,_,_,_,hk,_=>by simp [valR] at hk
 | .cl _::_,_,_,_,hk,_=>by simp [valR] at hk
 | .val _::_,_,[],_,_,h | .fp _::_,_,[],_,_,h=>h.elim
def retT (rs:List RK) (vs:List (Val S)):Val S:=match tpR rs with
 | true=> .tup vs
 | false=>vs.headD .undef
theorem ret_ok {rs:List RK} {vs:List (Val S)} {xs:List D} {d:D} (ht:tupD d=tpR rs) (hl:xs.length=rs.length) (h:All2 (VSx ρ H) vs xs):VS ρ H (retT rs vs) (recomp d xs):=by
 unfold retT
 cases htp:tpR rs with
 | true=>
  rw [htp] at ht
  cases d<;>first | exact ⟨_,rfl,h⟩ | cases ht
 | false=>
  rw [htp] at ht
  match rs,htp with
  | [_],_=>
   match xs,hl with
   | [x],_=>
    cases vs with
    | nil=>exact h.elim
    | cons v vs=>
     have e:recomp d [x]=x:=by cases d<;>first | rfl | cases ht
     rw [e]
     exact h.1.toVS
theorem hat_doWs {j:Nat}: ∀ {ws:List (Nat×Blk)} {H:Heap},(∀j'∈ws.map (·.1),j≠j')→hat (doWs H ws) j=hat H j
 | [],H,_=>rfl
 | u::us,H,hu=>by
  show hat (doWs (H.set u.1 u.2) us) j=_
  rw [hat_doWs (H:=H.set u.1 u.2) fun j' hj'=>hu j' (by simp at hj' ⊢;exact .inr hj')]
  unfold hat
  rw [List.getD_eq_getElem?_getD,List.getD_eq_getElem?_getD,List.getElem?_set_ne (fun e=>hu u.1 (by simp) e.symm)]
theorem modify_dead {H:Heap} {id:Nat} (h:dead H id):H.modify id Go.Pi.freeze=H:=by
 obtain ⟨sz,es,hd⟩:=h
 refine List.ext_getElem? fun j=> ?_
 rw [List.getElem?_modify]
 by_cases e:id=j
 ·subst e
  unfold hat at hd
  rw [List.getD_eq_getElem?_getD] at hd
  cases hj:H[id]? with
  | none=>rfl
  | some k=>
   rw [hj] at hd
   simp at hd
   subst hd
   simp [Go.Pi.freeze]
 ·simp only [e,if_false]
  cases H[j]? <;> rfl
theorem doFz_dead {H:Heap}: ∀ {l:List Nat},(∀j∈l,dead H j)→doFz H l=H
 | [],_=>rfl
 | i::l,h=>by
  show doFz (H.modify i Go.Pi.freeze) l=H
  rw [modify_dead (h i (by simp))]
  exact doFz_dead fun j hj=>h j (by simp [hj])
theorem newL_run {H:Heap} {e:Eff Out}: ∀ {is:List Nat},(∀i∈is,hat H i= .fresh∧i<H.length)→(newL is e).run H=e.run H
 | [],_=>rfl
 | i::is,h=>by
  obtain ⟨h1,h2⟩:=h i (by simp)
  simp only [newL,Eff.run,h1,h2,if_true]
  exact newL_run fun j hj=>h j (by simp [hj])
theorem call_ok (h:RelR fr b N ρ t g) {f:Nat} {ps:List PK} {rs:List RK} {F:Flds S (pcs ps)→Option (Flds S (rcs rs))} (hF:FOk pr f ps rs F) {args:List (Nat×PX)} {p:Flds S (pcs ps)} {r:Flds S (rcs rs)} {res:Nat} {q:List (Val S)×TS S}
  (hp:argsA t (keeps (S:=S) rs) ps args=some p) (hr:F p=some r) (hi:impT rs r res t=some q) :
  ∃n o g' ρ',(callE (runN pr n) (b+res) f (args.map fun p=>(p.1,p.2.ev g.ts))).run g.hp=some o∧GhK ⟨g.ts,o.on g.hp⟩ g'∧RelR fr b N ρ' q.2 g'∧VS ρ' g'.hp (retT rs q.1) o.d∧((rs.all valR&&keeps (S:=S) rs)=true→o.ws= []∧o.fz= []):=by
 obtain ⟨ds,ids,p1,p2,p3⟩:=argsA_ok h (j:=0) hp
 obtain ⟨n,d,H',r1,r2,xs,hh,rd,e1,e2,e3,e4⟩:=hF p r hr ds p2
 obtain ⟨g',ρ',k1,k2,k3,k4,k5⟩:=imp_ok (k:=res) e4 (GhK.refl g) h hi
 have hl:(impL (b+res) xs).1.length=rs.length:=by
  have: ∀ {l:List D} {r:Nat},(impL r l).1.length=l.length:=by
   intro l
   induction l with
   | nil=>intro r;rfl
   | cons d l ih=>intro r;simp [impL,ih]
  rw [this,e4.len]
 refine ⟨n,⟨recomp d (impL (b+res) xs).1,(impL (b+res) xs).2,if xs.all scalV then [] else ids⟩,g',ρ',?_,?_,k2,ret_ok r2 hl k4,fun hc=> ?_⟩
 ·simp only [callE,run_bindE,p1,Option.bind_some,List.map_nil,nodup,apart,List.all_nil,Bool.and_self,if_true,r1,finish,e1,expB,boxKs]
  simp only [e2,List.isEmpty_nil,Bool.true_and,List.nil_append]
  have h1:(hh.all fun x => !rd.contains x)=true:=e3
  have h2:(hh.all fun x => !([]:List Nat).contains x)=true:=by simp
  simp only [h1,h2,Bool.and_self,if_true]
  rw [newL_run k5]
  rfl
 ·show GhK ⟨g.ts,doFz (doWs g.hp _) _⟩ g'
  cases hsc:xs.all scalV with
  | true=>exact k1
  | false=>
   rw [if_neg (by simp),doFz_dead (fun j hj=> ?_)]
   ·exact k1
   ·have hk:keeps (S:=S) rs=false:=by
     cases hk:keeps (S:=S) rs with
     | false=>rfl
     | true=>rw [keeps_scal hk e4] at hsc;cases hsc
    rcases p3 j hj with ⟨sz,es,hd⟩ | ⟨e,_⟩
    ·exact ⟨sz,es,by rw [hat_doWs (fun j' hj' e=>by subst e;rw [(k5 j hj').1] at hd;cases hd)];exact hd⟩
    ·rw [hk] at e;cases e
 ·simp only [Bool.and_eq_true] at hc
  exact ⟨val_ws hc.1 e4,by rw [if_pos (keeps_scal hc.2 e4)]⟩
end
end Go.Pi
namespace Go.Pi
set_option linter.unusedVariables false
section
variable {S:Nat→Type} [Sg:Sig S] {ρ ρ':Rho} {H H':Heap} {fr:Fr} {b N:Nat} {t:TS S} {s g:St} {α:Type} {pr:Prog}
theorem expB_id {H:Heap} {sz:Nat} {cs:List D} {ry:List Nat} (h:expB H 0 [(0,true)]=some ([(0,.row sz [cs] true)],ry)) (id:Nat):expB H 0 [(id,true)]=some ([(id,.row sz [cs] true)],ry):=by
 simp only [expB] at h ⊢
 split at h
 ·rename_i sz' es' hh
  simp only [Option.bind_eq_some_iff,Option.some.injEq,Prod.mk.injEq,Option.bind_some] at h
  obtain ⟨x,h1,h2,h3⟩:=h
  simp only [List.cons.injEq,Prod.mk.injEq,Blk.row.injEq,and_true,true_and] at h2
  obtain ⟨rfl,h2⟩:=h2
  simp only [h1,Option.bind_some,h2,h3]
 ·cases h
theorem eachE_up {H:Heap} {n m:Nat} (hm:n≤m): ∀ {ds:List (List D)} {x:List (List D)×List Nat},(eachE (frz n) ds).run H=some x→(eachE (frz m) ds).run H=some x:=by
 have hC: ∀ {ds:List D} {x:List D×List Nat},(eachC (frz n) ds).run H=some x→(eachC (frz m) ds).run H=some x:=by
  intro ds
  induction ds with
  | nil=>intro x h;exact h
  | cons d ds ih=>
   intro x h
   simp only [eachC,run_bindE,Option.bind_eq_some_iff] at h ⊢
   obtain ⟨y,h1,z,h2,h3⟩:=h
   exact ⟨y,frz_up h1 hm,z,ih h2,h3⟩
 intro ds
 induction ds with
 | nil=>intro x h;exact h
 | cons d ds ih=>
  intro x h
  simp only [eachE,run_bindE,Option.bind_eq_some_iff] at h ⊢
  obtain ⟨y,h1,z,h2,h3⟩:=h
  exact ⟨y,hC h1,z,ih h2,h3⟩
theorem lent_ok (h:RelR fr b N ρ t g) {pn:Option Nat} {f:Nat} {c:Code} {ps:List PK} {rs:List RK} {F:T S c×Flds S (pcs ps)→Option (T S c×Flds S (rcs rs))} (hF:LOk pr f c ps rs F) {x:PX} {ob:Nat} {vs:List (Val S)} {a:T S c} {args:List (Nat×PX)} {p:Flds S (pcs ps)} {r:T S c×Flds S (rcs rs)} {res:Nat} {q:List (Val S)×TS S}
  (hx:evK t x=some (.ptr ob [] 0 0)) (ho:look t.hp ob=some (.box pn vs)) (ha:mk 11 c vs=some a) (hp:argsA t false ps args=some p) (hr:F (a,p)=some r) (hi:impT rs r.2 res (t.setO ob (.box pn [.one 1 c r.1]))=some q) :
  ∃n o g' ρ',(callE (runN pr n) (b+res) f (((2,x)::args).map fun p=>(p.1,p.2.ev g.ts))).run g.hp=some o∧GhK ⟨g.ts,o.on g.hp⟩ g'∧RelR fr b N ρ' q.2 g'∧VS ρ' g'.hp (retT rs q.1) o.d:=by
 obtain ⟨ds,ids,p1,p2,p3⟩:=argsA_ok h (j:=1) hp
 obtain ⟨id,sz,es,c1,c2,c3,c4⟩:=h.ev hx
 obtain ⟨id',cs,k1,k2,k3,k9⟩:=h.hp _ _ ho
 rw [c1] at k1;cases k1
 rw [c2] at k2;cases k2
 rw [Nat.zero_mul,Nat.zero_add] at c4
 have hcs:=mk_ok (by omega) ha k3
 have hw:widths vs=W (S:=S) c:=by rw [← k3.len, ← hcs.len,encs_len]
 rw [hw] at c2
 obtain ⟨z,z1,z2,z3⟩:=cls_each (P:=fun _=>False) (Nat.le_refl 11) hcs
 have z3: ∀i∈z.2,dead g.hp i:=fun i hi=>(z3 i hi).elim (fun q=>q) fun q=>q.elim
 have zE:(eachE (frz fuelF) [cs]).run g.hp=some ([z.1],z.2):=by
  have:(eachE (frz 11) [cs]).run g.hp=some ([z.1],z.2):=by simp [eachE,run_bindE,z1,Eff.run]
  exact eachE_up (by decide) this
 have hids: ∀j∈z.2++ids,dead g.hp j:=by
  intro j hj
  simp at hj
  rcases hj with hj | hj
  ·exact z3 j hj
  ·rcases p3 j hj with h | ⟨h,_⟩
   ·exact h
   ·cases h
 have hprep:(prep (((2,x)::args).map fun p=>(p.1,p.2.ev g.ts)) 0).run g.hp=some ⟨.ptr 0 0::ds,[.row (W (S:=S) c) [z.1] true],z.2++ids,[(id,true)]⟩:=by
  simp only [List.map_cons,c4,prep,Eff.run,c2,if_true,run_bindE,zE,Option.bind_some,p1]
 obtain ⟨n,d,H',r1,r2,xs,hd',rd,cs2,ry,e1,e2,e3,e4,e5,e6,e7,e8,e9,e10⟩:=hF (a,p) r hr z.1 ds (nrs_cl z2) p2
 have hidl:id<g.hp.length:=hat_ltK (by rw [c2];intro e;cases e)
 have hs1:RelR fr b N ρ (t.setO ob (.box pn [.one 1 c r.1])) ⟨g.ts,g.hp.set id (.row (W (S:=S) c) [cs2] true)⟩:=h.upd (es:= [cs]) (es':= [cs2]) c1 c2 rfl fun hx e1 _=>⟨id,cs2,c1,by rw [e1];simp [widths,width],VCs.single (cls_heap (HLe.nil _) e6),k9⟩
 obtain ⟨g',ρ',q1,q2,q3,q4,q5⟩:=imp_ok (k:=res) e4 (GhK.refl ⟨g.ts,g.hp.set id (.row (W (S:=S) c) [cs2] true)⟩) hs1 hi
 have hne: ∀j,dead g.hp j→j≠id:=fun j hj e=>by
  obtain ⟨_,_,hj⟩:=hj
  rw [e,c2] at hj;cases hj
 have hl:(impL (b+res) xs).1.length=rs.length:=by
  have: ∀ {l:List D} {r:Nat},(impL r l).1.length=l.length:=by
   intro l
   induction l with
   | nil=>intro r;rfl
   | cons d l ih=>intro r;simp [impL,ih]
  rw [this,e4.len]
 refine ⟨n,⟨recomp d (impL (b+res) xs).1,(id,.row (W (S:=S) c) [cs2] true)::(impL (b+res) xs).2,z.2++ids⟩,g',ρ',?_,?_,q2,ret_ok r2 hl q4⟩
 ·have hap:apart [id] (z.2++ids)=true:=by
   simp only [apart,List.all_eq_true,Bool.not_eq_true',List.contains_eq_mem,decide_eq_false_iff_not]
   intro j hj hm
   simp only [List.mem_singleton] at hj
   exact hne j (hids j hm) hj
  have hnd:nodup [id]=true:=by simp [nodup]
  unfold callE
  rw [run_bindE,hprep]
  simp only [Option.bind_some,List.map_cons,List.map_nil,hap,hnd,Bool.and_self,if_true,r1,finish,e1,expB_id e5 id,boxKs]
  simp only [e2,e3,e7,e8,e9,e10,Bool.and_self,if_true,List.isEmpty_cons,Bool.false_and,Bool.false_eq_true,if_false]
  rw [newL_run (fun j hj=> ?_)]
  ·rfl
  ·obtain ⟨f1,f2⟩:=q5 j hj
   rw [hat_setK hidl] at f1
   split at f1
   ·cases f1
   ·exact ⟨f1,by simpa using f2⟩
 ·show GhK ⟨g.ts,doFz (doWs (g.hp.set id _) _) _⟩ g'
  rw [doFz_dead (fun j hj=> ?_)]
  ·exact q1
  ·obtain ⟨sz',es',hj'⟩:=hids j hj
   have hn:=hne j (hids j hj)
   have h1:hat (g.hp.set id (.row (W (S:=S) c) [cs2] true)) j= .row sz' es' false:=by rw [hat_setK hidl,if_neg hn];exact hj'
   refine ⟨sz',es',?_⟩
   rw [hat_doWs (fun j' hj' e=> ?_)]
   ·exact h1
   ·subst e
    have:=(q5 j hj').1
    rw [h1] at this;cases this
end
end Go.Pi
namespace Go.Pi
set_option linter.unusedVariables false
section
variable {S:Nat→Type} [Sg:Sig S] {ρ ρ':Rho} {H H':Heap} {fr:Fr} {b N:Nat} {t:TS S} {s g:St} {α:Type} {pr:Prog}
def enumV {α:Type}:Nat→List α→List (Nat×α)
 | _,[]=> []
 | i,v::vs=>(i,v)::enumV (i+1) vs
theorem look_enumV {α:Type}: ∀ {vs:List α} {i j:Nat} {v:α},look (enumV i vs) j=some v→ ∃k,j=i+k∧vs[k]? = some v
 | [],_,_,_,h=>nomatch h
 | w::vs,i,j,v,h=>by
  simp only [enumV,look] at h
  split at h
  ·rename_i e
   cases h
   exact ⟨0,(Nat.eq_of_beq_eq_true e).symm,rfl⟩
  ·obtain ⟨k,h1,h2⟩:=look_enumV h
   exact ⟨k+1,by omega,by simpa using h2⟩
def argVs (t:TS S):List PX→Option (List (Val S))
 | []=>some []
 | x::xs=>match evK t x with
  | some v=>(match argVs t xs with
   | some vs=>some (v::vs)
   | none=>none)
  | none=>none
theorem argVs_ok (h:RelR fr b N ρ t g): ∀ {xs:List PX} {vs:List (Val S)},argVs t xs=some vs→All2 (VS ρ g.hp) vs (xs.map (PX.ev g.ts))
 | [],_,e=>by cases e;trivial
 | x::xs,vs,e=>by
  simp only [argVs] at e
  split at e
  ·rename_i v hv
   split at e
   ·rename_i us hu
    cases e
    exact ⟨h.ev hv,argVs_ok h hu⟩
   ·cases e
  ·cases e
def tpN (n:Nat):Bool := !Nat.beq n 1
def HOk (pr:Prog) (f:Nat) (sI sO:ShapeK) (F:Flds S sI.cs→Option (Flds S sO.cs)):Prop:=
 ∀p r,F p=some r→ ∀(fr:Fr) (ρ:Rho) (args:List D) (H:Heap),args.length=sI.sl.length→RelR fr 0 args.length ρ (openSh sI p) ⟨args,H⟩→Runs pr f args H fun d H'=>
  tupD d=tpN sO.sl.length∧ ∃g' ρ',GhK ⟨comps d,H'⟩ g'∧RelR fr 0 sO.sl.length ρ' (openSh sO r) g'
structure HEnt (S:Nat→Type) [Sg:Sig S] (pr:Prog) where
 f:Nat
 sI:ShapeK
 sO:ShapeK
 F:Flds S sI.cs→Option (Flds S sO.cs)
 ok:HOk pr f sI sO F
structure HC where
 L:List (Nat×Option Nat)
 sh:ShapeK
def isSm {α:Type}:Option α→Bool
 | some _=>true
 | none=>false
def inL (L:List (Nat×Option Nat)) (o:Nat):Bool:=isSm (look L o)
def findPin:List (Nat×Option Nat)→Nat→Option Nat
 | [],_=>none
 | (a,some k)::L,j=>(match Nat.beq k j with
  | true=>some a
  | false=>findPin L j)
 | (_,none)::L,j=>findPin L j
def pinof (L:List (Nat×Option Nat)) (o:Nat):Option Nat:=match look L o with
 | some (some k)=>(match findPin L k with
  | some a=>(match Nat.beq a o with
   | true=>some k
   | false=>none)
  | none=>none)
 | _=>none
theorem pinof_ok {L:List (Nat×Option Nat)} {o k:Nat} (h:pinof L o=some k):findPin L k=some o∧inL L o=true:=by
 unfold pinof at h
 split at h
 ·rename_i k' hk
  split at h
  ·rename_i a ha
   split at h
   ·rename_i e
    cases h
    obtain rfl:=Nat.eq_of_beq_eq_true e
    exact ⟨ha,by simp [inL,hk,isSm]⟩
   ·cases h
  ·cases h
 ·cases h
def repinO (L:List (Nat×Option Nat)) (o:Nat):Obj S→Obj S
 | .box _ vs=> .box (pinof L o) vs
 | ob=>ob
def repinH (L:List (Nat×Option Nat)):List (Nat×Obj S)→List (Nat×Obj S)
 | []=> []
 | (o,ob)::E=>(o,repinO L o ob)::repinH L E
omit Sg in
theorem look_repinH {L:List (Nat×Option Nat)}: ∀ {E:List (Nat×Obj S)} {o:Nat} {ob:Obj S},look (repinH L E) o=some ob→ ∃w,look E o=some w∧ob=repinO L o w
 | [],_,_,h=>nomatch h
 | (k,w)::E,o,ob,h=>by
  simp only [repinH,look] at h ⊢
  split at h
  ·rename_i e
   cases h
   obtain rfl:=Nat.eq_of_beq_eq_true e
   exact ⟨w,rfl,rfl⟩
  ·exact look_repinH h
def tArg (L:List (Nat×Option Nat)) (vs:List (Val S)) (t:TS S):TS S:=
 TS.clear ⟨enumV 0 vs,repinH L t.hp,t.nx,[],t.gh⟩ (fun o _ => !inL L o)
def rhoIn (L:List (Nat×Option Nat)) (ρ:Rho):Rho:=cutR ρ (fun o _ => !inL L o)
theorem rhoIn_some {L:List (Nat×Option Nat)} {o:Nat} {p:List Nat} {x:Option Nat} (h:rhoIn L ρ o p=some x):inL L o=true∧ρ o p=some x:=by
 obtain ⟨h1,h2⟩:=cutR_some h
 exact ⟨by simpa using h1,h2⟩
def pinF (L:List (Nat×Option Nat)) (ρ:Rho) (k:Nat):Nat:=match findPin L k with
 | some a=>(match ρ a [] with
  | some (some id)=>id
  | _=>0)
 | none=>0
open Classical in
noncomputable def frA (L:List (Nat×Option Nat)) (ρ:Rho) (H:Heap):Fr:=
 ⟨fun id=>if ∃o p,rhoIn L ρ o p=some (some id) then none else if id<H.length then some (hat H id) else none,pinF L ρ⟩
open Classical in
theorem frA_in {L:List (Nat×Option Nat)} {o:Nat} {p:List Nat} {id:Nat} (h:rhoIn L ρ o p=some (some id)):(frA L ρ H) id=none:=by
 show (if _ then _ else _)=_
 rw [if_pos ⟨o,p,h⟩]
open Classical in
theorem frA_out {L:List (Nat×Option Nat)} {id:Nat} (h: ∀o p,rhoIn L ρ o p≠some (some id)) (hl:id<H.length):(frA L ρ H) id=some (hat H id):=by
 show (if _ then _ else _)=_
 rw [if_neg (fun ⟨o,p,e⟩=>h o p e),if_pos hl]
open Classical in
theorem frA_some {L:List (Nat×Option Nat)} {id:Nat} {k:Blk} (h:(frA L ρ H) id=some k):hat H id=k∧id<H.length:=by
 have h:(if _ then _ else _)=some k:=h
 split at h
 ·cases h
 ·split at h
  ·cases h
   exact ⟨rfl,by assumption⟩
  ·cases h
open Classical in
theorem frA_none {L:List (Nat×Option Nat)} {id:Nat} (h:(frA L ρ H) id=none):(∃o p,rhoIn L ρ o p=some (some id))∨H.length≤id:=by
 have h:(if _ then _ else _)=none:=h
 split at h
 ·exact .inl (by assumption)
 ·split at h
  ·cases h
  ·right;omega
theorem RelR.args (h:RelR fr b N ρ t g) (L:List (Nat×Option Nat)) {vs:List (Val S)} {ds:List D} (hv:All2 (VS ρ g.hp) vs ds) :
  RelR (frA L ρ g.hp) 0 ds.length (rhoIn L ρ) (Pi.tArg L vs t) ⟨ds,g.hp⟩:=by
 refine ⟨rfl,fun i v hl=> ?_,fun o ob ho=> ?_,fun _ _ _ _ _ h1 h2=>h.inj _ _ _ _ _ (rhoIn_some h1).2 (rhoIn_some h2).2,fun o p id h1=>⟨frA_in h1,(h.liv _ _ _ (rhoIn_some h1).2).2⟩,fun o p ho=> ?_,fun id k hk=>frA_some hk,List.nodup_nil,fun _ hr=>nomatch hr⟩
 ·obtain ⟨w,h1,rfl⟩:=look_clearS hl
  obtain ⟨k,e,hk⟩:=look_enumV h1
  rw [Nat.zero_add] at e
  subst e
  obtain ⟨d,h2,h3⟩:=hv.get hk
  show VS (rhoIn L ρ) g.hp _ (ds.getD i .undef)
  rw [List.getD_eq_getElem?_getD,h2]
  exact h3.clear
 ·obtain ⟨h1,w,h2,rfl⟩:=look_clearH ho
  obtain ⟨w',h2',rfl⟩:=look_repinH h2
  have h3:=h.hp _ _ h2'
  cases w' with
  | row n e l=>exact RowR.ext (HLe.refl _) (fun p x hx=>by rw [rhoIn,cutR_ne (P:=fun o _ => !inL L o) h1];exact hx) (fun p id _=>rfl) h3
  | box pn us=>
   obtain ⟨id,es,k1,k2,k3,k9⟩:=h3
   refine ⟨id,es,by rw [rhoIn,cutR_ne (P:=fun o _ => !inL L o) h1];exact k1,by rw [k3.clear.2];exact k2,k3.clear.1,?_⟩
   cases hp:pinof L o with
   | none=>exact trivial
   | some k=>
    show id=pinF L ρ k
    simp only [pinF,(pinof_ok hp).1,k1]
 ·have:=h.nxt o p ho
  simp only [rhoIn,cutR]
  split
  ·rfl
  ·exact this
def keyH:List (Nat×OSh)→Nat→Bool
 | [],_=>false
 | (a,_)::E,o=>match Nat.beq a o with
  | true=>true
  | false=>keyH E o
def staysK (L:List (Nat×Option Nat)) (t t':TS S) (o:Nat):Bool:=match pinof L o,look t.hp o,look t'.hp o with
 | some k,some (.box _ vs),some (.box (some k') vs')=>Nat.beq k k'&&Nat.beq (widths vs') (widths vs)
 | _,_,_=>false
def nilP:List Nat→Bool
 | []=>true
 | _::_=>false
def goneP (L:List (Nat×Option Nat)) (ks:List (Nat×OSh)) (t t':TS S):Nat→List Nat→Bool:=fun o p=>(inL L o || keyH ks o) && !(staysK L t t' o&&nilP p)
def goneQ (L:List (Nat×Option Nat)) (ks:List (Nat×OSh)):Nat→Bool:=fun o=>inL L o || keyH ks o
def backO (L:List (Nat×Option Nat)) (t t':TS S) (o:Nat):Obj S→Obj S
 | .box pn vs=> .box (match staysK L t t' o,look t.hp o with
  | true,some (.box pn0 _)=>pn0
  | _,_=>none) vs
 | ob=>ob
def backH (L:List (Nat×Option Nat)) (t t':TS S):List (Nat×Obj S)→List (Nat×Obj S)→List (Nat×Obj S)
 | [],K=>K
 | (o,ob)::E,K=>(o,backO L t t' o ob)::backH L t t' E K
theorem look_backH {L:List (Nat×Option Nat)} {t t':TS S}: ∀ {E K:List (Nat×Obj S)} {o:Nat} {ob:Obj S},look (backH L t t' E K) o=some ob→(∃w,look E o=some w∧ob=backO L t t' o w)∨look K o=some ob
 | [],_,_,_,h=> .inr h
 | (k,w)::E,K,o,ob,h=>by
  simp only [backH,look] at h ⊢
  split at h
  ·rename_i e
   cases h
   obtain rfl:=Nat.eq_of_beq_eq_true e
   exact .inl ⟨w,rfl,rfl⟩
  ·exact look_backH h
def mergeT (L:List (Nat×Option Nat)) (ks:List (Nat×OSh)) (t t':TS S):TS S:=
 { sl:=clearS (goneP L ks t t') t.sl,hp:=backH L t t' t'.hp (clearH2 (goneP L ks t t') (goneQ L ks) t.hp),nx:=t'.nx,av:=t.av,gh:=t.gh || t'.gh }
def rhoM (L:List (Nat×Option Nat)) (ks:List (Nat×OSh)) (ρ ρ3:Rho):Rho:=fun o p=>match keyH ks o with
 | true=>ρ3 o p
 | false=>(match inL L o with
  | true=>none
  | false=>ρ o p)
theorem RelR.merge (h:RelR fr b N ρ t g) {L:List (Nat×Option Nat)} {ks:List (Nat×OSh)} {t':TS S} {ρ3:Rho} {g':St} {m:Nat} (k:RelR (frA L ρ g.hp) 0 m ρ3 t' g')
  (hk: ∀o ob,look t'.hp o=some ob→keyH ks o=true) (h3: ∀o p x,ρ3 o p=some x→keyH ks o=true) (hx:t.nx≤t'.nx) :
  RelR fr b N (rhoM L ks ρ ρ3) (mergeT L ks t t') ⟨g.ts,g'.hp⟩∧ ∀(v:Val S) (d:D),VS ρ3 g'.hp v d→VS (rhoM L ks ρ ρ3) g'.hp v d:=by
 have hc:=h.clear2 (P:=goneP L ks t t') (Q:=goneQ L ks) (fun o p q=>by
  simp only [goneQ] at q
  simp only [goneP,q,Bool.false_and])
 have out: ∀ {o p id},ρ o p=some (some id)→inL L o=false→(∀o' p',rhoIn L ρ o' p'≠some (some id)):=fun {o p id} e1 e2 o' p' e3=>by
  obtain ⟨q1,q2⟩:=rhoIn_some e3
  obtain ⟨rfl,_⟩:=h.inj _ _ _ _ _ e1 q2
  rw [e2] at q1
  cases q1
 have same: ∀ {id},(∀o' p',rhoIn L ρ o' p'≠some (some id))→id<g.hp.length→hat g'.hp id=hat g.hp id∧id<g'.hp.length:=fun {id} e1 e2=>k.frm _ _ (frA_out e1 e2)
 have key: ∀ {o p x},ρ3 o p=some x→rhoM L ks ρ ρ3 o p=some x:=fun {o p x} e=>by
  simp only [rhoM,h3 _ _ _ e]
  exact e
 have old: ∀ {o p},goneQ L ks o=false→rhoM L ks ρ ρ3 o p=ρ o p:=fun {o p} e=>by
  simp only [goneQ,Bool.or_eq_false_iff] at e
  simp only [rhoM,e.1,e.2]
 have cs: ∀ {o p id},rhoM L ks ρ ρ3 o p=some (some id)→(keyH ks o=true∧ρ3 o p=some (some id))∨(goneQ L ks o=false∧ρ o p=some (some id)∧inL L o=false):=fun {o p id} e=>by
  simp only [rhoM] at e
  split at e
  ·exact .inl ⟨by assumption,e⟩
  ·split at e
   ·cases e
   ·rename_i e1 _ e2
    exact .inr ⟨by simp [goneQ,e1,e2],e,e2⟩
 have lt: ∀ {o p id},ρ o p=some (some id)→id<g.hp.length:=fun e=>by
  obtain ⟨_,_,_,q⟩:=h.liv _ _ _ e
  exact hat_ltK (by rw [q];intro z;cases z)
 have hle:HLe g.hp g'.hp:=fun id sz es e=>by
  have l1:id<g.hp.length:=hat_ltK (by rw [e];intro z;cases z)
  rw [(same (fun o' p' q=>by
   obtain ⟨_,_,_,q2⟩:=h.liv _ _ _ (rhoIn_some q).2
   rw [e] at q2
   cases q2) l1).1]
  exact e
 have stay: ∀ {o},staysK L t t' o=true→ ∃id sz es es',ρ o []=some (some id)∧ρ3 o []=some (some id)∧hat g.hp id= .row sz [es] true∧hat g'.hp id= .row sz [es'] true∧keyH ks o=true:=fun {o} e=>by
  unfold staysK at e
  split at e
  ·rename_i kk _ vs k' vs' e1 e2 e3
   simp only [Bool.and_eq_true] at e
   obtain rfl:=Nat.eq_of_beq_eq_true e.1
   have ew:=Nat.eq_of_beq_eq_true e.2
   obtain ⟨id,ds,a1,a2,a3,a4⟩:=h.hp _ _ e2
   obtain ⟨id',ds',b1,b2,b3,b4⟩:=k.hp _ _ e3
   have b4:id'=pinF L ρ kk:=b4
   simp only [pinF,(pinof_ok e1).1,a1] at b4
   subst b4
   exact ⟨id',_,ds,ds',a1,b1,a2,by rw [b2,ew],hk _ _ e3⟩
  ·cases e
 have gone: ∀ {o p},goneP L ks t t' o p=false→goneQ L ks o=false∨(staysK L t t' o=true∧p= []):=fun {o p} e=>by
  cases q:goneQ L ks o with
  | false=>exact .inl rfl
  | true=>
   right
   have q:(inL L o || keyH ks o)=true:=q
   simp only [goneP,q,Bool.true_and,Bool.not_eq_false',Bool.and_eq_true] at e
   refine ⟨e.1,?_⟩
   cases p with
   | nil=>rfl
   | cons _ _=>exact nomatch e.2
 have x:Ext (cutR ρ (goneP L ks t t')) g.hp (rhoM L ks ρ ρ3) g'.hp:=by
  refine ⟨hle,fun o p y hy=> ?_,fun o p id sz es hy hr=> ?_⟩
  ·obtain ⟨e1,e2⟩:=cutR_some hy
   rcases gone e1 with q | ⟨q,rfl⟩
   ·rw [old q];exact e2
   ·obtain ⟨id,_,_,_,a1,a2,_,_,_⟩:=stay q
    rw [a1] at e2
    cases e2
    exact key a2
  ·obtain ⟨e1,e2⟩:=cutR_some hy
   rcases gone e1 with q | ⟨q,rfl⟩
   ·have q2:inL L o=false:=by
     simp only [goneQ,Bool.or_eq_false_iff] at q
     exact q.1
    exact ⟨es,by rw [(same (out e2 q2) (lt e2)).1];exact hr,rfl⟩
   ·obtain ⟨id',sz',e,e',a1,a2,a3,a4,_⟩:=stay q
    rw [a1] at e2
    cases e2
    rw [a3] at hr
    cases hr
    exact ⟨[e'],a4,rfl⟩
 have x3:Ext ρ3 g'.hp (rhoM L ks ρ ρ3) g'.hp:=⟨HLe.refl _,fun _ _ _ e=>key e,fun _ _ _ _ es _ e=>⟨es,e,rfl⟩⟩
 refine ⟨⟨h.len,fun i v hv=>(hc.sl i v hv).ext x,fun o ob ho=> ?_,fun o p o' p' id e1 e2=> ?_,fun o p id e=> ?_,fun o p ho=> ?_,fun id q hq=> ?_,h.avl.1,fun r hr=> ?_⟩,fun v d hv=>hv.ext x3⟩
 ·rcases look_backH ho with ⟨w,e1,rfl⟩ | e1
  ·have e2:=k.hp _ _ e1
   cases w with
   | row n e l=>exact RowR.ext (HLe.refl _) (fun p y hy=>key hy) (fun _ _ _=>rfl) e2
   | box pn vs=>
    obtain ⟨id,ds,a1,a2,a3,a4⟩:=e2
    refine ⟨id,ds,key a1,a2,a3.ext x3,?_⟩
    split
    ·rename_i pn0 _ q1 q2
     obtain ⟨id',_,_,_,b1,b2,_,_,_⟩:=stay q1
     rw [a1] at b2
     cases b2
     obtain ⟨id2,_,c1,_,_,c4⟩:=h.hp _ _ q2
     rw [b1] at c1
     cases c1
     exact c4
    ·exact trivial
  ·obtain ⟨q1,w,q2,rfl⟩:=look_clearH2 e1
   have e2:=hc.hp _ _ e1
   refine ObjR.ext x (fun p id hp=> ?_) e2
   have hp2:=(cutR_some hp).2
   have q3:inL L o=false:=by
    simp only [goneQ,Bool.or_eq_false_iff] at q1
    exact q1.1
   exact (same (out hp2 q3) (lt hp2)).1
 ·rcases cs e1 with ⟨a1,a2⟩ | ⟨a1,a2,a3⟩<;>rcases cs e2 with ⟨b1,b2⟩ | ⟨b1,b2,b3⟩
  ·exact k.inj _ _ _ _ _ a2 b2
  ·have:=(k.liv _ _ _ a2).1
   rw [frA_out (out b2 b3) (lt b2)] at this
   cases this
  ·have:=(k.liv _ _ _ b2).1
   rw [frA_out (out a2 a3) (lt a2)] at this
   cases this
  ·exact h.inj _ _ _ _ _ a2 b2
 ·rcases cs e with ⟨a1,a2⟩ | ⟨a1,a2,a3⟩
  ·obtain ⟨q1,q2⟩:=k.liv _ _ _ a2
   refine ⟨?_,q2⟩
   rcases frA_none q1 with ⟨o',p',z⟩ | z
   ·exact (h.liv _ _ _ (rhoIn_some z).2).1
   ·cases z2:fr id with
    | none=>rfl
    | some y=>exact absurd (h.frm _ _ z2).2 (by omega)
  ·obtain ⟨q1,sz,es,q2⟩:=h.liv _ _ _ a2
   exact ⟨q1,sz,es,by rw [(same (out a2 a3) (lt a2)).1];exact q2⟩
 ·have ho:t'.nx≤o:=ho
  simp only [rhoM]
  split
  ·exact k.nxt _ _ ho
  ·split
   ·rfl
   ·exact h.nxt _ _ (by omega)
 ·obtain ⟨q1,q2⟩:=h.frm _ _ hq
  have:=same (id:=id) (fun o' p' z=>by
   rw [(h.liv _ _ _ (rhoIn_some z).2).1] at hq
   cases hq) q2
  exact ⟨by rw [this.1];exact q1,this.2⟩
 ·obtain ⟨q1,q2,q3⟩:=h.avl.2 r hr
  have:=same (id:=b+r) (fun o' p' z=>by
   obtain ⟨_,_,_,z2⟩:=h.liv _ _ _ (rhoIn_some z).2
   rw [q1] at z2
   cases z2) q2
  exact ⟨by rw [this.1];exact q1,this.2,q3⟩
def isTup:Val S→Bool
 | .tup _=>true
 | _=>false
def colV (t:TS S):Nat→Nat→Option (List (Val S))
 | _,0=>some []
 | i,n+1=>match look t.sl i with
  | some v=>(match isTup v,colV t (i+1) n with
   | false,some vs=>some (v::vs)
   | _,_=>none)
  | none=>none
theorem colV_ok {m:Nat} (h:RelR fr b m ρ t g): ∀ {n i:Nat} {vs:List (Val S)},colV t i n=some vs→i+n=m→All2 (VSx ρ g.hp) vs (g.ts.drop i)
 | 0,i,vs,e,hm=>by
  cases e
  rw [List.drop_of_length_le (by rw [h.len];omega)]
  trivial
 | n+1,i,vs,e,hm=>by
  simp only [colV] at e
  split at e
  ·rename_i v hv
   split at e
   ·rename_i us ht hu
    cases e
    have hi:i<g.ts.length:=by rw [h.len];omega
    rw [List.drop_eq_getElem_cons hi]
    refine ⟨?_,colV_ok h hu (by omega)⟩
    have:=h.sl _ _ hv
    rw [List.getD_eq_getElem?_getD,List.getElem?_eq_getElem hi] at this
    exact this.toVSx (fun _ e=>by subst e;cases ht)
   ·cases e
  ·cases e
def retH (n:Nat) (vs:List (Val S)):Val S:=match tpN n with
 | true=> .tup vs
 | false=>vs.headD .undef
def callHT (e:HEnt S pr) (C:HC) (N:Nat) (dst:Option Nat) (args:List PX) (t:TS S) (K:TS S→Option α):Option α:=match argVs t args with
 | some vs=>(match closeSh e.sI (tArg C.L vs t) with
  | some p=>(e.F p).bind fun r=>(match closeSh C.sh (openSh e.sO r) with
   | some q=>(match colV ((openSh C.sh q).clear fun o _ => !keyH C.sh.hp o) 0 C.sh.sl.length with
    | some us=>(match Nat.beq args.length e.sI.sl.length&&Nat.beq C.sh.sl.length e.sO.sl.length&&Nat.ble t.nx C.sh.nx&&dstK N dst with
     | true=>K ((mergeT C.L C.sh.hp t ((openSh C.sh q).clear fun o _ => !keyH C.sh.hp o)).putD dst (retH C.sh.sl.length us))
     | false=>none)
    | none=>none)
   | none=>none)
  | none=>none)
 | none=>none
theorem callHT_ok (h:RelR fr b N ρ t g) {e:HEnt S pr} {C:HC} {dst:Option Nat} {args:List PX} {res:Nat} {K:TS S→Option α} {r:α} (hr:callHT e C N dst args t K=some r) :
  ∃n g1,stepO (runN pr n) b ⟨dst,.callH e.f args,none,[],res⟩ g=some g1∧ ∃t' g2 ρ2,K t'=some r∧GhK g1 g2∧RelR fr b N ρ2 t' g2:=by
 unfold callHT at hr
 split at hr
 ·rename_i vs hvs
  split at hr
  ·rename_i p hp
   simp only [Option.bind_eq_some_iff] at hr
   obtain ⟨y,hy,hr⟩:=hr
   split at hr
   ·rename_i q hq
    split at hr
    ·rename_i us hus
     split at hr
     ·rename_i hc
      simp only [Bool.and_eq_true] at hc
      obtain ⟨⟨⟨c0,c1⟩,c2⟩,c3⟩:=hc
      have c1:=Nat.eq_of_beq_eq_true c1
      have c2:=Nat.le_of_ble_eq_true c2
      have ha:=h.args C.L (argVs_ok h hvs)
      obtain ⟨ρ1,h1⟩:=ha.closeSh hp
      obtain ⟨n,d,H',r1,r2,g',ρ',r3,r4⟩:=e.ok p y hy _ _ _ _ (by rw [List.length_map];exact Nat.eq_of_beq_eq_true c0) h1
      obtain ⟨ρ2,h2⟩:=r4.closeSh hq
      have h3:=h2.clear (P:=fun o _ => !keyH C.sh.hp o) (fun _ _ q=>q)
      have hk: ∀o ob,look ((openSh C.sh q).clear fun o _ => !keyH C.sh.hp o).hp o=some ob→keyH C.sh.hp o=true:=fun o ob ho=>by
       obtain ⟨q1,_⟩:=look_clearH ho
       simpa using q1
      have hρ: ∀o p x,cutR ρ2 (fun o _ => !keyH C.sh.hp o) o p=some x→keyH C.sh.hp o=true:=fun o p x ho=>by
       have:=(cutR_some ho).1
       simpa using this
      obtain ⟨m1,m2⟩:=h.merge h3 hk hρ c2
      have hv:=colV_ok h3 hus (by rw [Nat.zero_add];exact c1)
      rw [List.drop_zero] at hv
      have hts:comps d=g'.ts:=r3.ts
      have hl:g'.ts.length=C.sh.sl.length:=by rw [c1];exact r4.len
      have hres:VS (cutR ρ2 fun o _ => !keyH C.sh.hp o) g'.hp (retH C.sh.sl.length us) d:=by
       unfold retH
       cases htp:tpN C.sh.sl.length with
       | true=>
        rw [← c1,htp] at r2
        cases d<;>first | exact ⟨_,rfl,by rw [← hts] at hv;exact hv⟩ | cases r2
       | false=>
        rw [← c1,htp] at r2
        have hn:C.sh.sl.length=1:=by
         simp only [tpN,Bool.not_eq_false'] at htp
         exact Nat.eq_of_beq_eq_true htp
        have hcd:comps d= [d]:=by cases d<;>first | rfl | cases r2
        rw [← hts,hcd] at hv
        match us,hv with
        | [u],hv=>exact hv.1.toVS
      refine ⟨n,⟨putT g.ts dst d,H'⟩,?_,_,⟨putT g.ts dst d,g'.hp⟩,_,hr,⟨rfl,r3.hp⟩,m1.putD c3 (m2 _ _ hres)⟩
      simp only [stepO,guardOk,wantedP,if_true,r1,Option.map_some]
     ·cases hr
    ·cases hr
   ·cases hr
  ·cases hr
 ·cases hr
end
end Go.Pi
namespace Go.Pi
set_option linter.unusedVariables false
structure Ent (S:Nat→Type) [Sg:Sig S] (pr:Prog) where
 f:Nat
 ps:List PK
 rs:List RK
 F:Flds S (pcs ps)→Option (Flds S (rcs rs))
 ok:FOk pr f ps rs F
structure LEnt (S:Nat→Type) [Sg:Sig S] (pr:Prog) where
 f:Nat
 c:Code
 ps:List PK
 rs:List RK
 F:T S c×Flds S (pcs ps)→Option (T S c×Flds S (rcs rs))
 ok:LOk pr f c ps rs F
inductive Entry (S:Nat→Type) [Sg:Sig S] (pr:Prog) where
 | plain (e:Ent S pr)
 | lent (e:LEnt S pr)
 | heap (e:HEnt S pr)
section
variable {S:Nat→Type} [Sg:Sig S] {ρ ρ':Rho} {H H':Heap} {fr:Fr} {b N:Nat} {t:TS S} {s g:St} {α:Type} {pr:Prog}
def Entry.num:Entry S pr→Nat
 | .plain e=>e.f
 | .lent e=>e.f
 | .heap e=>e.f
def findE:List (Entry S pr)→Nat→Option (Entry S pr)
 | [],_=>none
 | e::es,f=>match Nat.beq e.num f with
  | true=>some e
  | false=>findE es f
theorem findE_ok: ∀ {Γ:List (Entry S pr)} {f:Nat} {e:Entry S pr},findE Γ f=some e→e.num=f
 | [],_,_,h=>nomatch h
 | e::es,f,e',h=>by
  simp only [findE] at h
  split at h
  ·rename_i q
   cases h
   exact Nat.eq_of_beq_eq_true q
  ·exact findE_ok h
def op1 (dst:Option Nat) (res:Nat) (cd:Code) (op:POp) (t:TS S) (K:TS S→Option α):Option α:=match pureK t op with
 | some v=>K (t.putD dst v)
 | none=>match op with
  | .pick c x y=>opPick dst c x y t K
  | .bin o x y=>opBin dst o x y t K
  | .alloc z=>opAlloc dst res z t K
  | .box n x=>opBox dst res n x t K
  | .buildSlice sz n z ps=>(match cd with
   | .own e=>(match ps with
    | [(0,.c .nil)]=>opBuildZ dst res e sz n z ps t K
    | _=>opBuildO dst res sz n z ps t K)
   | _=>opBuildS dst res cd sz n z ps t K)
  | .makeSlice sz by' z l c=>opMake dst res cd sz by' z l c t K
  | .load ag n x=>(match evK t x with
   | some (.pa _ _ _ _)=>opLoadA dst ag n x t K
   | _=>opLoad dst ag n x t K)
  | .store n a x=>(match dst with
   | none=>(match evK t a,isOwn cd with
    | some (.pa _ _ _ _),_=>opStoreA n a x t K
    | _,true=>opStoreO n a x t K
    | _,false=>opStore n a x t K)
   | some _=>none)
  | .indexAddr sz x i=>opIndex dst sz x i t K
  | .indexAddrA sz len x i=>opIdxA dst sz len x i t K
  | .index ag sz len x i=>opIdxV dst ag sz len x i t K
  | .indexS x i=>opIndexS dst x i t K
  | .len x=>opLen dst x t K
  | .slice sz x lo hi=>opSlice dst sz x lo hi t K
  | .sliceS x lo hi=>opSliceS dst x lo hi t K
  | .conv c x=>opConv dst c x t K
  | .append sz by' x y=>(match isOwn cd with
   | true=>opAppendP dst res sz by' x y t K
   | false=>opAppend dst res cd sz by' x y t K)
  | .mark x=>opMark dst x t K
  | .bits x=>opBits dst x t K
  | _=>none
theorem op1_ok (h:RelR fr b N ρ t g) {dst:Option Nat} (hd:dstK N dst=true) {res:Nat} {cd:Code} {op:POp} {K:TS S→Option α} {r:α} (hr:op1 dst res cd op t K=some r):Got fr b N g op res dst (fun t'=>K t'=some r):=by
 unfold op1 at hr
 split at hr
 ·rename_i v hv
  intro call
  obtain ⟨d,k1,k2⟩:=pureK_ok h hv call (b+res)
  exact ⟨⟨d,[],[]⟩,ρ,_,k1,h.putD hd k2,hr⟩
 ·split at hr
  ·exact (opPick_ok h hd hr).got
  ·exact (opBin_ok h hd hr).got
  ·exact (opAlloc_ok h hd hr).got
  ·exact (opBox_ok h hd hr).got
  ·split at hr
   ·split at hr
    ·exact opBuildZ_ok h hd hr
    ·exact opBuildO_ok h hd hr
   ·exact (opBuildS_ok h hd hr).got
  ·exact (opMake_ok h hd hr).got
  ·split at hr
   ·exact (opLoadA_ok h hd hr).got
   ·exact (opLoad_ok h hd hr).got
  ·split at hr
   ·split at hr
    ·exact (opStoreA_ok h hr).got
    ·exact opStoreO_ok h hr
    ·exact (opStore_ok h hr).got
   ·cases hr
  ·exact (opIndex_ok h hd hr).got
  ·exact (opIdxA_ok h hd hr).got
  ·exact (opIdxV_ok h hd hr).got
  ·exact (opIndexS_ok h hd hr).got
  ·exact (opLen_ok h hd hr).got
  ·exact (opSlice_ok h hd hr).got
  ·exact (opSliceS_ok h hd hr).got
  ·exact (opConv_ok h hd hr).got
  ·split at hr
   ·exact opAppendP_ok h hd hr
   ·exact opAppend_ok h hd hr
  ·exact opMark_ok h hd hr
  ·exact (opBits_ok h hd hr).got
  ·cases hr
def callP (e:Ent S pr) (dst:Option Nat) (res:Nat) (args:List (Nat×PX)) (t:TS S) (K:TS S→Option α):Option α:=match argsA t (keeps (S:=S) e.rs) e.ps args with
 | some p=>(e.F p).bind fun r=>match impT e.rs r res t with
  | some q=>K (q.2.putD dst (retT e.rs q.1))
  | none=>none
 | none=>none
def callLK (e:LEnt S pr) (dst:Option Nat) (res:Nat) (args:List (Nat×PX)) (t:TS S) (K:TS S→Option α):Option α:=match args with
 | []=>none
 | (m,x)::as=>(match Nat.beq m 2,evK t x,argsA t false e.ps as with
  | true,some (.ptr o p i j),some q=>(match p,Nat.beq i 0&&Nat.beq j 0,look t.hp o with
   | [],true,some (.box pn vs)=>(match mk 11 e.c vs with
    | some a=>(e.F (a,q)).bind fun r=>(match impT e.rs r.2 res (t.setO o (.box pn [.one 1 e.c r.1])) with
     | some w=>K (w.2.putD dst (retT e.rs w.1))
     | none=>none)
    | none=>none)
   | _,_,_=>none)
  | _,_,_=>none)
def callT (Γ:List (Entry S pr)) (f:Nat) (dst:Option Nat) (res:Nat) (args:List (Nat×PX)) (t:TS S) (K:TS S→Option α):Option α:=match findE Γ f with
 | some (.plain e)=>callP e dst res args t K
 | some (.lent e)=>callLK e dst res args t K
 | _=>none
def callHG (Γ:List (Entry S pr)) (N:Nat) (dst:Option Nat) (f:Nat) (args:List PX) (C:HC) (t:TS S) (K:TS S→Option α):Option α:=match findE Γ f with
 | some (.heap e)=>callHT e C N dst args t K
 | _=>none
def callQT (Γ:List (Entry S pr)) (f:Nat) (dst:Option Nat) (res:Nat) (args:List (Nat×PX)) (t:TS S) (K:TS S→Option α):Option α:=match findE Γ f with
 | some (.plain e)=>(match e.rs.all valR&&keeps (S:=S) e.rs with
  | true=>callP e dst res args t K
  | false=>none)
 | _=>none
def stepT (Γ:List (Entry S pr)) (N:Nat) (dst:Option Nat) (res:Nat) (cd:Code) (op:POp) (t:TS S) (K:TS S→Option α):Option α:=match dstK N dst with
 | false=>none
 | true=>match op with
  | .call f args=>callT Γ f dst res args t K
  | .callQ f args=>callQT Γ f dst res args t K
  | .callV fs x args=>(match evK t x with
   | some (.fn f)=>(match fs.contains f with
    | true=>callQT Γ f dst res args t K
    | false=>none)
   | _=>none)
  | op=>op1 dst res cd op t K
theorem Rel.of (h:RelR fr b N ρ t g):Rel fr b N t g:=⟨g,ρ,GhK.refl g,h⟩
theorem Rel.gh (h:GhK s g) (k:Rel fr b N t g):Rel fr b N t s:=by
 obtain ⟨g',ρ,h1,h2⟩:=k
 exact ⟨g',ρ,h.trans h1,h2⟩
theorem stepO_op {call:CallF} {dst:Option Nat} {op:POp} {gu:Option (Nat×Bool)} {aft:List Nat} {res:Nat} {out:Out} (hg:guardOk g.ts gu=true) (hw:wantedP g.ts gu=true) (h:(opE call (PX.ev g.ts) (b+res) op).run g.hp=some out) :
  stepO call b ⟨dst,op,gu,aft,res⟩ g=some ⟨putT g.ts dst out.d,out.on g.hp⟩:=by
 unfold stepO
 simp only [hg,hw,if_true]
 split
 ·simp [opE,Eff.run] at h
 ·simp only [h,Option.map_some]
theorem put_gh {dst:Option Nat} {o:Out} {g':St} (h:GhK ⟨g.ts,o.on g.hp⟩ g'):GhK ⟨putT g.ts dst o.d,o.on g.hp⟩ ⟨putT g'.ts dst o.d,g'.hp⟩:=⟨by rw [show g.ts=g'.ts from h.ts],h.hp⟩
theorem callP_ok (h:RelR fr b N ρ t g) {e:Ent S pr} {dst:Option Nat} (hd:dstK N dst=true) {res:Nat} {args:List (Nat×PX)} {K:TS S→Option α} {r:α} (hr:callP e dst res args t K=some r) :
  ∃n o,(callE (runN pr n) (b+res) e.f (args.map fun p=>(p.1,p.2.ev g.ts))).run g.hp=some o∧(∃t',K t'=some r∧Rel fr b N t' ⟨putT g.ts dst o.d,o.on g.hp⟩)∧((e.rs.all valR&&keeps (S:=S) e.rs)=true→o.ws= []∧o.fz= []):=by
 unfold callP at hr
 split at hr
 ·rename_i p hp
  simp only [Option.bind_eq_some_iff] at hr
  obtain ⟨v,hv,hr⟩:=hr
  split at hr
  ·rename_i q hq
   obtain ⟨n,o,g',ρ',k1,k2,k3,k4,k5⟩:=call_ok h e.ok hp hv hq
   exact ⟨n,o,k1,⟨_,hr,_,ρ',put_gh k2,k3.putD hd k4⟩,k5⟩
  ·cases hr
 ·cases hr
theorem callT_ok (h:RelR fr b N ρ t g) {Γ:List (Entry S pr)} {f:Nat} {dst:Option Nat} (hd:dstK N dst=true) {res:Nat} {args:List (Nat×PX)} {K:TS S→Option α} {r:α} (hr:callT Γ f dst res args t K=some r) :
  ∃n o,(callE (runN pr n) (b+res) f (args.map fun p=>(p.1,p.2.ev g.ts))).run g.hp=some o∧ ∃t',K t'=some r∧Rel fr b N t' ⟨putT g.ts dst o.d,o.on g.hp⟩:=by
 unfold callT at hr
 split at hr
 ·rename_i e he
  obtain ⟨n,o,k1,k2,_⟩:=callP_ok h hd hr
  rw [show e.f=f from findE_ok he] at k1
  exact ⟨n,o,k1,k2⟩
 ·rename_i e he
  unfold callLK at hr
  split at hr
  ·cases hr
  ·rename_i m x as
   split at hr
   ·rename_i o p i j q hm hx hq
    split at hr
    ·rename_i vs hij ho
     simp only [Bool.and_eq_true] at hij
     obtain rfl:=Nat.eq_of_beq_eq_true hij.1
     obtain rfl:=Nat.eq_of_beq_eq_true hij.2
     obtain rfl:=Nat.eq_of_beq_eq_true hm
     split at hr
     ·rename_i a ha
      simp only [Option.bind_eq_some_iff] at hr
      obtain ⟨v,hv,hr⟩:=hr
      split at hr
      ·rename_i w hw
       obtain ⟨n,out,g',ρ',k1,k2,k3,k4⟩:=lent_ok h e.ok hx ho ha hq hv hw
       rw [show e.f=f from findE_ok he] at k1
       exact ⟨n,out,k1,_,hr,_,ρ',put_gh k2,k3.putD hd k4⟩
      ·cases hr
     ·cases hr
    ·cases hr
   ·cases hr
 ·cases hr
theorem callQT_ok (h:RelR fr b N ρ t g) {Γ:List (Entry S pr)} {f:Nat} {dst:Option Nat} (hd:dstK N dst=true) {res:Nat} {args:List (Nat×PX)} {K:TS S→Option α} {r:α} (hr:callQT Γ f dst res args t K=some r) :
  ∃n o,(callE (runN pr n) (b+res) f (args.map fun p=>(p.1,p.2.ev g.ts))).run g.hp=some o∧o.ws= []∧o.fz= []∧ ∃t',K t'=some r∧Rel fr b N t' ⟨putT g.ts dst o.d,o.on g.hp⟩:=by
 unfold callQT at hr
 split at hr
 ·rename_i e he
  split at hr
  ·rename_i hc
   obtain ⟨n,o,k1,k2,k3⟩:=callP_ok h hd hr
   rw [show e.f=f from findE_ok he] at k1
   exact ⟨n,o,k1,(k3 hc).1,(k3 hc).2,k2⟩
  ·cases hr
 ·cases hr
theorem stepT_ok (h:RelR fr b N ρ t g) {Γ:List (Entry S pr)} {dst:Option Nat} {res:Nat} {cd:Code} {op:POp} {gu:Option (Nat×Bool)} {aft:List Nat} {K:TS S→Option α} {r:α} (hg:guardOk g.ts gu=true) (hw:wantedP g.ts gu=true) (hr:stepT Γ N dst res cd op t K=some r) :
  ∃n g1,stepO (runN pr n) b ⟨dst,op,gu,aft,res⟩ g=some g1∧ ∃t',K t'=some r∧Rel fr b N t' g1:=by
 unfold stepT at hr
 split at hr
 ·cases hr
 ·rename_i hd
  split at hr
  ·obtain ⟨n,o,k1,k2⟩:=callT_ok h hd hr
   exact ⟨n,_,stepO_op hg hw k1,k2⟩
  ·obtain ⟨n,o,k1,k2,k3,k4⟩:=callQT_ok h hd hr
   refine ⟨n,_,stepO_op hg hw (out:=o) ?_,k4⟩
   simp only [opE,run_bindE,k1,Option.bind_some,k2,k3,List.isEmpty_nil,Bool.and_self,if_true,Eff.run]
  ·split at hr
   ·rename_i f hx
    split at hr
    ·rename_i hf
     obtain ⟨n,o,k1,k2,k3,k4⟩:=callQT_ok h hd hr
     refine ⟨n,_,stepO_op hg hw (out:=o) ?_,k4⟩
     have e:PX.ev g.ts _= .fn f:=h.ev hx
     simp only [opE,e,hf,if_true,run_bindE,k1,Option.bind_some,k2,k3,List.isEmpty_nil,Bool.and_self,Eff.run]
    ·cases hr
   ·cases hr
  ·obtain ⟨out,ρ',t',k1,k2,k3⟩:=op1_ok h hd hr (runN pr 0)
   exact ⟨0,_,stepO_op hg hw k1,t',k3,Rel.of k2⟩
inductive AO where
 | o (dst:Option Nat) (op:POp) (res:Nat) (cd:Code)
 | g (dst:Option Nat) (op:POp) (gt:Nat) (gb:Bool) (res:Nat) (cd:Code)
 | fz (i:Nat)
 | fzA (i j:Nat)
 | h (dst:Option Nat) (f:Nat) (args:List PX) (C:HC) (res:Nat)
 | hg (dst:Option Nat) (f:Nat) (args:List PX) (gt:Nat) (gb:Bool) (C:HC) (res:Nat)
 | un (i:Nat)
 | fzN (i j:Nat)
 | fzB (i j:Nat)
 | n3 (a:Nat) (e:Code) (sz bytes:Nat) (x y:PX) (r1 d:Nat) (u i:PX) (r2 r3:Nat)
def AO.er:List AO→List PO
 | []=> []
 | .o dst op res _::os=>⟨dst,op,none,[],res⟩::AO.er os
 | .g dst op gt gb res _::os=>⟨dst,op,some (gt,gb),[],res⟩::AO.er os
 | .fz _::os=>AO.er os
 | .fzA _ _::os=>AO.er os
 | .un _::os=>AO.er os
 | .fzN _ _::os=>AO.er os
 | .fzB _ _::os=>AO.er os
 | .h dst f args _ res::os=>⟨dst,.callH f args,none,[],res⟩::AO.er os
 | .hg dst f args gt gb _ res::os=>⟨dst,.callH f args,some (gt,gb),[],res⟩::AO.er os
 | .n3 a _ sz bytes x y r1 d u i r2 r3::os=>⟨some a,.append sz bytes x y,none,[],r1⟩::⟨some d,.indexAddr 1 u i,none,[],r2⟩::⟨none,.store 1 (.t d) (.t a),none,[],r3⟩::AO.er os
def gOp (Γ:List (Entry S pr)) (N:Nat) (dst:Option Nat) (op:POp) (gt:Nat) (gb:Bool) (res:Nat) (cd:Code) (t:TS S) (K:TS S→Option α):Option α:=match look t.sl gt with
 | some .skip=>(match dstK N dst with
  | true=>K (t.putD dst .skip)
  | false=>none)
 | some (.one _ .bool v)=>(match Nat.blt gt N&&dstK N dst with
  | true=>cond v (match gb with
    | true=>stepT Γ N dst res cd op (t.put gt (boolV true)) K
    | false=>K ((t.put gt (boolV true)).putD dst .skip))
   (match gb with
    | true=>K ((t.put gt (boolV false)).putD dst .skip)
    | false=>stepT Γ N dst res cd op (t.put gt (boolV false)) K)
  | false=>none)
 | _=>none
def gH (Γ:List (Entry S pr)) (N:Nat) (dst:Option Nat) (f:Nat) (args:List PX) (gt:Nat) (gb:Bool) (C:HC) (t:TS S) (K:TS S→Option α):Option α:=match look t.sl gt with
 | some .skip=>(match dstK N dst with
  | true=>K (t.putD dst .skip)
  | false=>none)
 | some (.one _ .bool v)=>(match Nat.blt gt N&&dstK N dst with
  | true=>cond v (match gb with
    | true=>callHG Γ N dst f args C (t.put gt (boolV true)) K
    | false=>K ((t.put gt (boolV true)).putD dst .skip))
   (match gb with
    | true=>K ((t.put gt (boolV false)).putD dst .skip)
    | false=>callHG Γ N dst f args C (t.put gt (boolV false)) K)
  | false=>none)
 | _=>none
def opsT (Γ:List (Entry S pr)) (N:Nat):List AO→TS S→(TS S→Option α)→Option α
 | [],t,K=>K t
 | .o dst op res cd::os,t,K=>stepT Γ N dst res cd op t fun t=>opsT Γ N os t K
 | .g dst op gt gb res cd::os,t,K=>gOp Γ N dst op gt gb res cd t fun t=>opsT Γ N os t K
 | .fz i::os,t,K=>(match look t.sl i with
  | some (.whole o _)=>(match t.freeze o with
   | some t=>opsT Γ N os t K
   | none=>none)
  | some (.win o _ _ _)=>(match t.freeze o with
   | some t=>opsT Γ N os t K
   | none=>none)
  | some _=>opsT Γ N os t K
  | none=>none)
 | .fzA i j::os,t,K=>(match look t.sl i with
  | some (.agg vs)=>(match vs[j]? with
   | some (.whole o _)=>(match t.freeze o with
    | some t=>opsT Γ N os t K
    | none=>none)
   | some _=>opsT Γ N os t K
   | none=>none)
  | some _=>opsT Γ N os t K
  | none=>none)
 | .fzB i j::os,t,K=>(match look t.sl i with
  | some (.ptr q _ _ _)=>(match look t.hp q with
   | some (.box _ vs)=>(match vs[j]? with
    | some (.whole o _)=>(match t.freeze o with
     | some t=>opsT Γ N os t K
     | none=>none)
    | some _=>opsT Γ N os t K
    | none=>none)
   | _=>none)
  | _=>none)
 | .fzN i j::os,t,K=>(match look t.sl i with
  | some (.ptr q _ _ _)=>(match look t.hp q with
   | some (.box _ vs)=>(match vs[j]? with
    | some (.whole o _)=>(match t.freezeN o with
     | some t=>opsT Γ N os t K
     | none=>none)
    | _=>none)
   | _=>none)
  | some (.whole o _)=>(match t.freezeN o with
   | some t=>opsT Γ N os t K
   | none=>none)
  | _=>none)
 | .un i::os,t,K=>(match Nat.blt i N,look t.sl i with
  | true,some (.whole o p)=>rowOf t o p fun n e l=>opsT Γ N os (((t.forget o).addAt o (.row n e l)).put i (.whole o [])) K
  | _,_=>none)
 | .h dst f args C res::os,t,K=>callHG Γ N dst f args C t fun t=>opsT Γ N os t K
 | .hg dst f args gt gb C res::os,t,K=>gH Γ N dst f args gt gb C t fun t=>opsT Γ N os t K
 | .n3 a e sz bytes x y r1 d u i r2 r3::os,t,K=>opN3 N a e sz bytes x y r1 d u i t fun t=>opsT Γ N os t K
theorem Steps.gh {os:List PO} {Q:St→Prop} (h:GhK s g) (k:Steps pr b os g Q):Steps pr b os s (fun s'=> ∃g',GhK s' g'∧Q g'):=by
 obtain ⟨n,g',k1,k2⟩:=k
 obtain ⟨s',k3,k4⟩:=seqR_gh (runN_gh pr n) h k1
 exact ⟨n,s',k3,g',k4,k2⟩
theorem put_same {i:Nat} {d:D} {ts:List D} (hi:i<ts.length) (h:ts.getD i .undef=d):ts.set i d=ts:=by
 refine List.ext_getElem? fun j=> ?_
 rw [List.getElem?_set]
 split
 ·rename_i e;subst e
  rw [← h,List.getD_eq_getElem?_getD,List.getElem?_eq_getElem hi]
  rfl
 ·rfl
theorem stepO_gu {call:CallF} {dst:Option Nat} {op:POp} {gu:Option (Nat×Bool)} {res:Nat} (hg:guardOk g.ts gu=true) (hw:wantedP g.ts gu=true):stepO call b ⟨dst,op,gu,[],res⟩ g=stepO call b ⟨dst,op,none,[],res⟩ g:=by
 unfold stepO
 rw [if_pos hg,if_pos hw,if_pos (show guardOk g.ts none=true from rfl),if_pos (show wantedP g.ts none=true from rfl)]
theorem Steps.app {l m:List PO} {s:St} {Q:St→Prop} (h:Steps pr b l s (fun s1=>Steps pr b m s1 Q)):Steps pr b (l++m) s Q:=by
 obtain ⟨n,s1,h1,k,s2,h2,h3⟩:=h
 induction l generalizing s n with
 | nil=>
  cases h1
  exact ⟨k,s2,h2,h3⟩
 | cons o os ih=>
  simp only [seqR,Option.bind_eq_some_iff] at h1
  obtain ⟨s3,h4,h5⟩:=h1
  exact Steps.cons h4 (ih n h5)
theorem opsT_ok {Γ:List (Entry S pr)}: ∀ {os:List AO} {t:TS S} {g:St} {ρ:Rho} {K:TS S→Option α} {r:α},opsT Γ N os t K=some r→RelR fr b N ρ t g→Steps pr b (AO.er os) g (fun s'=> ∃t',K t'=some r∧Rel fr b N t' s')
 | [],t,g,ρ,K,r,hr,h=>Steps.nil ⟨t,hr,Rel.of h⟩
 | .o dst op res cd::os,t,g,ρ,K,r,hr,h=>by
  obtain ⟨n,g1,k1,t',k2,g2,ρ2,k3,k4⟩:=stepT_ok (aft:= []) h (gu:=none) rfl rfl hr
  refine Steps.cons k1 ?_
  refine Steps.mono (Steps.gh k3 (opsT_ok k2 k4)) ?_
  rintro s' ⟨g',q1,t2,q2,q3⟩
  exact ⟨t2,q2,q3.gh q1⟩
 | .g dst op gt gb res cd::os,t,g,ρ,K,r,hr,h=>by
  have hr:gOp Γ N dst op gt gb res cd t (fun t=>opsT Γ N os t K)=some r:=hr
  have go: ∀ {t1:TS S} {g1:St} {n:Nat},stepO (runN pr n) b ⟨dst,op,some (gt,gb),[],res⟩ g=some g1→Rel fr b N t1 g1→opsT Γ N os t1 K=some r→Steps pr b (AO.er (.g dst op gt gb res cd::os)) g (fun s'=> ∃t',K t'=some r∧Rel fr b N t' s'):=by
   rintro t1 g1 n k1 ⟨g2,ρ2,k3,k4⟩ k2
   refine Steps.cons k1 ?_
   refine Steps.mono (Steps.gh k3 (opsT_ok k2 k4)) ?_
   rintro s' ⟨g',q1,t2,q2,q3⟩
   exact ⟨t2,q2,q3.gh q1⟩
  unfold gOp at hr
  split at hr
  ·rename_i hs
   split at hr
   ·rename_i hd
    have e:g.ts.getD gt .undef= .skip:=h.sl _ _ hs
    refine go (n:=0) (g1:=⟨putT g.ts dst .skip,g.hp⟩) ?_ (Rel.of (h.putD hd (show VS ρ g.hp .skip .skip from rfl))) hr
    simp only [stepO,guardOk,e,wantedP,if_true,Bool.false_eq_true,if_false]
   ·cases hr
  ·rename_i m v hs
   split at hr
   ·rename_i hc
    simp only [Bool.and_eq_true] at hc
    have hi:gt<N:=by simpa using hc.1
    have e:g.ts.getD gt .undef= .bool v:=(show Cl g.hp m (.bool v) _ from (h.sl _ _ hs).1).sc rfl
    have hput: ∀w:Bool,v=w→RelR fr b N ρ (t.put gt (boolV w)) g:=fun w hw=>by
     subst hw
     have:=h.put hi (boolV_ok (S:=S) (ρ:=ρ) (H:=g.hp) v)
     rw [put_same (by rw [h.len];exact hi) e] at this
     exact this
    have hok:guardOk g.ts (some (gt,gb))=true:=by simp only [guardOk,e]
    cases v with
    | true=>
     simp only [cond_true] at hr
     cases gb with
     | true=>
      obtain ⟨n,g1,k1,t',k2,k3⟩:=stepT_ok (aft:= []) (hput true rfl) hok (by simp only [wantedP,e];rfl) hr
      exact go k1 k3 k2
     | false=>
      refine go (n:=0) (g1:=⟨putT g.ts dst .skip,g.hp⟩) ?_ (Rel.of ((hput true rfl).putD hc.2 (show VS ρ g.hp .skip .skip from rfl))) hr
      simp only [stepO,hok,wantedP,e,if_true]
      rfl
    | false=>
     simp only [cond_false] at hr
     cases gb with
     | true=>
      refine go (n:=0) (g1:=⟨putT g.ts dst .skip,g.hp⟩) ?_ (Rel.of ((hput false rfl).putD hc.2 (show VS ρ g.hp .skip .skip from rfl))) hr
      simp only [stepO,hok,wantedP,e,if_true]
      rfl
     | false=>
      obtain ⟨n,g1,k1,t',k2,k3⟩:=stepT_ok (aft:= []) (hput false rfl) hok (by simp only [wantedP,e];rfl) hr
      exact go k1 k3 k2
   ·cases hr
  ·cases hr
 | .fz i::os,t,g,ρ,K,r,hr,h=>by
  simp only [opsT] at hr
  have go: ∀ {o:Nat} {t1:TS S},t.freeze o=some t1→opsT Γ N os t1 K=some r→Steps pr b (AO.er (.fz i::os)) g (fun s'=> ∃t',K t'=some r∧Rel fr b N t' s'):=by
   intro o t1 ht k2
   obtain ⟨g2,k3,k4⟩:=h.shut ht
   refine Steps.mono (Steps.gh k3 (opsT_ok (os:=os) k2 k4)) ?_
   rintro s' ⟨g',q1,t2,q2,q3⟩
   exact ⟨t2,q2,q3.gh q1⟩
  split at hr
  ·split at hr
   ·exact go (by assumption) hr
   ·cases hr
  ·split at hr
   ·exact go (by assumption) hr
   ·cases hr
  ·exact opsT_ok (os:=os) hr h
  ·cases hr
 | .fzA i j::os,t,g,ρ,K,r,hr,h=>by
  simp only [opsT] at hr
  have go: ∀ {o:Nat} {t1:TS S},t.freeze o=some t1→opsT Γ N os t1 K=some r→Steps pr b (AO.er (.fzA i j::os)) g (fun s'=> ∃t',K t'=some r∧Rel fr b N t' s'):=by
   intro o t1 ht k2
   obtain ⟨g2,k3,k4⟩:=h.shut ht
   refine Steps.mono (Steps.gh k3 (opsT_ok (os:=os) k2 k4)) ?_
   rintro s' ⟨g',q1,t2,q2,q3⟩
   exact ⟨t2,q2,q3.gh q1⟩
  split at hr
  ·split at hr
   ·split at hr
    ·exact go (by assumption) hr
    ·cases hr
   ·exact opsT_ok (os:=os) hr h
   ·cases hr
  ·exact opsT_ok (os:=os) hr h
  ·cases hr
 | .fzB i j::os,t,g,ρ,K,r,hr,h=>by
  simp only [opsT] at hr
  have go: ∀ {o:Nat} {t1:TS S},t.freeze o=some t1→opsT Γ N os t1 K=some r→Steps pr b (AO.er (.fzB i j::os)) g (fun s'=> ∃t',K t'=some r∧Rel fr b N t' s'):=by
   intro o t1 ht k2
   obtain ⟨g2,k3,k4⟩:=h.shut ht
   refine Steps.mono (Steps.gh k3 (opsT_ok (os:=os) k2 k4)) ?_
   rintro s' ⟨g',q1,t2,q2,q3⟩
   exact ⟨t2,q2,q3.gh q1⟩
  split at hr
  ·split at hr
   ·split at hr
    ·split at hr
     ·exact go (by assumption) hr
     ·cases hr
    ·exact opsT_ok (os:=os) hr h
    ·cases hr
   ·cases hr
  ·cases hr
 | .fzN i j::os,t,g,ρ,K,r,hr,h=>by
  simp only [opsT] at hr
  have go: ∀ {o:Nat} {t1:TS S},t.freezeN o=some t1→opsT Γ N os t1 K=some r→Steps pr b (AO.er (.fzN i j::os)) g (fun s'=> ∃t',K t'=some r∧Rel fr b N t' s'):=by
   intro o t1 ht k2
   obtain ⟨g2,ρ2,k3,k4⟩:=h.shutN ht
   refine Steps.mono (Steps.gh k3 (opsT_ok (os:=os) k2 k4)) ?_
   rintro s' ⟨g',q1,t2,q2,q3⟩
   exact ⟨t2,q2,q3.gh q1⟩
  split at hr
  ·split at hr
   ·split at hr
    ·split at hr
     ·exact go (by assumption) hr
     ·cases hr
    ·cases hr
   ·cases hr
  ·split at hr
   ·exact go (by assumption) hr
   ·cases hr
  ·cases hr
 | .un i::os,t,g,ρ,K,r,hr,h=>by
  simp only [opsT] at hr
  split at hr
  ·rename_i o p hi hs
   have hi':i<N:=by simpa using hi
   obtain ⟨n,e,l,k1,k2⟩:=h.rowOf hr
   have r1:=h.unnest (o:=o) (p:=p) (ob:= .row n e l) (x:=none) (fun p'=>ρ o (p++p')) (fun _ _ h=>h) (fun ρ' _ h2=>k2.ext (HLe.refl _) (fun p' x hx=>by rw [h2];exact hx) (fun _ _ _=>rfl))
   have r2:VS (S:=S) (ins (del ρ o) o fun p'=>ρ o (p++p')) g.hp (.whole o []) (g.ts.getD i .undef):=by
    rcases h.sl _ _ hs with ⟨id,sz,es,q1,q2,q3⟩ | ⟨q1,q2⟩
    ·exact .inl ⟨id,sz,es,by rw [ins_eq,List.append_nil];exact q1,q2,q3⟩
    ·exact .inr ⟨by rw [ins_eq,List.append_nil];exact q1,q2⟩
   have r3:=r1.put hi' r2
   rw [put_same (by rw [h.len];exact hi') rfl] at r3
   exact opsT_ok (os:=os) k1 r3
  ·cases hr
 | .h dst f args C res::os,t,g,ρ,K,r,hr,h=>by
  have hr:callHG Γ N dst f args C t (fun t=>opsT Γ N os t K)=some r:=hr
  unfold callHG at hr
  split at hr
  ·rename_i e he
   obtain ⟨n,g1,k1,t',g2,ρ2,k2,k3,k4⟩:=callHT_ok (res:=res) h hr
   rw [show e.f=f from findE_ok he] at k1
   refine Steps.cons k1 ?_
   refine Steps.mono (Steps.gh k3 (opsT_ok k2 k4)) ?_
   rintro s' ⟨g',q1,t2,q2,q3⟩
   exact ⟨t2,q2,q3.gh q1⟩
  ·cases hr
 | .hg dst f args gt gb C res::os,t,g,ρ,K,r,hr,h=>by
  have hr:gH Γ N dst f args gt gb C t (fun t=>opsT Γ N os t K)=some r:=hr
  have go: ∀ {t1:TS S} {g1:St} {n:Nat},stepO (runN pr n) b ⟨dst,.callH f args,some (gt,gb),[],res⟩ g=some g1→Rel fr b N t1 g1→opsT Γ N os t1 K=some r→Steps pr b (AO.er (.hg dst f args gt gb C res::os)) g (fun s'=> ∃t',K t'=some r∧Rel fr b N t' s'):=by
   rintro t1 g1 n k1 ⟨g2,ρ2,k3,k4⟩ k2
   refine Steps.cons k1 ?_
   refine Steps.mono (Steps.gh k3 (opsT_ok k2 k4)) ?_
   rintro s' ⟨g',q1,t2,q2,q3⟩
   exact ⟨t2,q2,q3.gh q1⟩
  have doit: ∀ {t1:TS S},RelR fr b N ρ t1 g→guardOk g.ts (some (gt,gb))=true→wantedP g.ts (some (gt,gb))=true→callHG Γ N dst f args C t1 (fun t=>opsT Γ N os t K)=some r→Steps pr b (AO.er (.hg dst f args gt gb C res::os)) g (fun s'=> ∃t',K t'=some r∧Rel fr b N t' s'):=by
   intro t1 h1 hg hw hr
   unfold callHG at hr
   split at hr
   ·rename_i e he
    obtain ⟨n,g1,k1,t',g2,ρ2,k2,k3,k4⟩:=callHT_ok (res:=res) h1 hr
    rw [show e.f=f from findE_ok he, ← stepO_gu hg hw] at k1
    exact go k1 ⟨g2,ρ2,k3,k4⟩ k2
   ·cases hr
  unfold gH at hr
  split at hr
  ·rename_i hs
   split at hr
   ·rename_i hd
    have e:g.ts.getD gt .undef= .skip:=h.sl _ _ hs
    refine go (n:=0) (g1:=⟨putT g.ts dst .skip,g.hp⟩) ?_ (Rel.of (h.putD hd (show VS ρ g.hp .skip .skip from rfl))) hr
    simp only [stepO,guardOk,e,wantedP,if_true,Bool.false_eq_true,if_false]
   ·cases hr
  ·rename_i m v hs
   split at hr
   ·rename_i hc
    simp only [Bool.and_eq_true] at hc
    have hi:gt<N:=by simpa using hc.1
    have e:g.ts.getD gt .undef= .bool v:=(show Cl g.hp m (.bool v) _ from (h.sl _ _ hs).1).sc rfl
    have hput: ∀w:Bool,v=w→RelR fr b N ρ (t.put gt (boolV w)) g:=fun w hw=>by
     subst hw
     have:=h.put hi (boolV_ok (S:=S) (ρ:=ρ) (H:=g.hp) v)
     rw [put_same (by rw [h.len];exact hi) e] at this
     exact this
    have hok:guardOk g.ts (some (gt,gb))=true:=by simp only [guardOk,e]
    cases v with
    | true=>
     simp only [cond_true] at hr
     cases gb with
     | true=>exact doit (hput true rfl) hok (by simp only [wantedP,e];rfl) hr
     | false=>
      refine go (n:=0) (g1:=⟨putT g.ts dst .skip,g.hp⟩) ?_ (Rel.of ((hput true rfl).putD hc.2 (show VS ρ g.hp .skip .skip from rfl))) hr
      simp only [stepO,hok,wantedP,e,if_true]
      rfl
    | false=>
     simp only [cond_false] at hr
     cases gb with
     | true=>
      refine go (n:=0) (g1:=⟨putT g.ts dst .skip,g.hp⟩) ?_ (Rel.of ((hput false rfl).putD hc.2 (show VS ρ g.hp .skip .skip from rfl))) hr
      simp only [stepO,hok,wantedP,e,if_true]
      rfl
     | false=>exact doit (hput false rfl) hok (by simp only [wantedP,e];rfl) hr
   ·cases hr
  ·cases hr
 | .n3 a e sz bytes x y r1 d u i r2 r3::os,t,g,ρ,K,r,hr,h=>by
  refine Steps.app (l:= [_,_,_]) (Steps.mono (opN3_ok (K:=fun t=>opsT Γ N os t K) h hr) ?_)
  rintro s1 ⟨t1,ρ1,k1,k2⟩
  exact opsT_ok (os:=os) k1 k2
end
end Go.Pi
namespace Go.Pi
set_option linter.unusedVariables false
theorem bind_rd {α β:Type} {f:α→Eff β} {H:Heap}: ∀ {e:Eff α} {a:α},e.run H=some a→(e.bind f).rd H=e.rd H++(f a).rd H∧(e.bind f).lv H=e.lv H++(f a).lv H
 | .pure a,_,h=>by simp only [Eff.run,Option.some.injEq] at h;subst h;exact ⟨rfl,rfl⟩
 | .fail,_,h=>by simp [Eff.run] at h
 | .get id k,a,h=>by
  simp only [Eff.run] at h
  split at h
  ·rename_i sz es lv hq
   obtain ⟨h1,h2⟩:=bind_rd (f:=f) (e:=k sz es) h
   simp only [Eff.bind,Eff.rd,Eff.lv,hq,h1,h2,List.cons_append]
   exact ⟨trivial,trivial⟩
  ·cases h
 | .live id k,a,h=>by
  simp only [Eff.run] at h
  split at h
  ·obtain ⟨h1,h2⟩:=bind_rd (f:=f) (e:=k) h
   simp only [Eff.bind,Eff.rd,Eff.lv,h1,h2,List.cons_append]
   exact ⟨trivial,trivial⟩
  ·cases h
 | .new id k,a,h=>by
  simp only [Eff.run] at h
  split at h
  ·split at h
   ·obtain ⟨h1,h2⟩:=bind_rd (f:=f) (e:=k) h
    simp only [Eff.bind,Eff.rd,Eff.lv,h1,h2,List.cons_append]
    exact ⟨trivial,trivial⟩
   ·cases h
  ·cases h
def Meets (H:Heap) {α:Type} (e:Eff α) (l:List Nat):Prop:=(∀j∈e.rd H,j∈l)∧e.lv H= []
theorem eachC_rd {H:Heap} {f:D→Eff (D×List Nat)} (hf: ∀d x,(f d).run H=some x→Meets H (f d) x.2): ∀ {ds:List D} {x:List D×List Nat},(eachC f ds).run H=some x→Meets H (eachC f ds) x.2
 | [],x,h=>⟨fun j hj=>(by cases hj),rfl⟩
 | d::ds,x,h=>by
  have h':=h
  simp only [eachC,run_bindE,Option.bind_eq_some_iff,Eff.run,Option.some.injEq] at h'
  obtain ⟨y,h1,z,h2,rfl⟩:=h'
  obtain ⟨a1,a2⟩:=hf d y h1
  obtain ⟨b1,b2⟩:=eachC_rd hf h2
  unfold Meets
  simp only [eachC,(bind_rd h1).1,(bind_rd h1).2,(bind_rd h2).1,(bind_rd h2).2,Eff.rd,Eff.lv,List.append_nil,a2,b2]
  refine ⟨fun j hj=> ?_,trivial⟩
  rcases List.mem_append.1 hj with hj | hj
  ·exact List.mem_append_left _ (a1 j hj)
  ·exact List.mem_append_right _ (b1 j hj)
theorem eachE_rd {H:Heap} {f:D→Eff (D×List Nat)} (hf: ∀d x,(f d).run H=some x→Meets H (f d) x.2): ∀ {ds:List (List D)} {x:List (List D)×List Nat},(eachE f ds).run H=some x→Meets H (eachE f ds) x.2
 | [],x,h=>⟨fun j hj=>(by cases hj),rfl⟩
 | d::ds,x,h=>by
  have h':=h
  simp only [eachE,run_bindE,Option.bind_eq_some_iff,Eff.run,Option.some.injEq] at h'
  obtain ⟨y,h1,z,h2,rfl⟩:=h'
  obtain ⟨a1,a2⟩:=eachC_rd hf h1
  obtain ⟨b1,b2⟩:=eachE_rd hf h2
  unfold Meets
  simp only [eachE,(bind_rd h1).1,(bind_rd h1).2,(bind_rd h2).1,(bind_rd h2).2,Eff.rd,Eff.lv,List.append_nil,a2,b2]
  refine ⟨fun j hj=> ?_,trivial⟩
  rcases List.mem_append.1 hj with hj | hj
  ·exact List.mem_append_left _ (a1 j hj)
  ·exact List.mem_append_right _ (b1 j hj)
theorem frz_rd {H:Heap}: ∀(n:Nat) (d:D) (x:D×List Nat),(frz n d).run H=some x→Meets H (frz n d) x.2
 | 0,d,x,h=>by simp [frz,Eff.run] at h
 | n+1,d,x,h=>by
  have ih:=frz_rd (H:=H) n
  cases d<;>simp only [frz] at h
  case ref id off len=>
   simp only [Eff.run] at h
   split at h
   ·rename_i sz es lv hh
    split at h
    ·rename_i hc
     have h':=h
     simp only [run_bindE,Option.bind_eq_some_iff,Eff.run,Option.some.injEq] at h'
     obtain ⟨y,h1,rfl⟩:=h'
     obtain ⟨a1,a2⟩:=eachE_rd ih h1
     unfold Meets
     simp only [frz,Eff.rd,Eff.lv,hh]
     rw [if_pos hc]
     simp only [(bind_rd h1).1,(bind_rd h1).2,Eff.rd,Eff.lv,List.append_nil,a2]
     refine ⟨fun j hj=> ?_,trivial⟩
     simp only [List.mem_cons] at hj ⊢
     rcases hj with hj | hj
     ·exact .inl hj
     ·exact .inr (a1 j hj)
    ·simp [Eff.run] at h
   ·cases h
  case ptr id off=>
   simp only [Eff.run] at h
   split at h
   ·rename_i sz es lv hh
    split at h
    ·rename_i e he
     have h':=h
     simp only [run_bindE,Option.bind_eq_some_iff,Eff.run,Option.some.injEq] at h'
     obtain ⟨y,h1,rfl⟩:=h'
     obtain ⟨a1,a2⟩:=eachC_rd ih h1
     unfold Meets
     simp only [frz,Eff.rd,Eff.lv,hh,he]
     simp only [(bind_rd h1).1,(bind_rd h1).2,Eff.rd,Eff.lv,List.append_nil,a2]
     refine ⟨fun j hj=> ?_,trivial⟩
     simp only [List.mem_cons] at hj ⊢
     rcases hj with hj | hj
     ·exact .inl hj
     ·exact .inr (a1 j hj)
    ·simp [Eff.run] at h
   ·cases h
  case agg cs=>
   have h':=h
   simp only [run_bindE,Option.bind_eq_some_iff,Eff.run,Option.some.injEq] at h'
   obtain ⟨y,h1,rfl⟩:=h'
   obtain ⟨a1,a2⟩:=eachC_rd ih h1
   unfold Meets
   simp only [frz,(bind_rd h1).1,(bind_rd h1).2,Eff.rd,Eff.lv,List.append_nil,a2]
   exact ⟨a1,trivial⟩
  case tup=>simp [Eff.run] at h
  case own=>simp [Eff.run] at h
  all_goals
   simp only [Eff.run,Option.some.injEq] at h
   subst h
   exact ⟨fun j hj=>(by cases hj),rfl⟩
theorem prep_rd {H:Heap}: ∀ {as:List (Nat×D)} {j:Nat} {p:Prep},(∀a∈as,a.1=0)→(prep as j).run H=some p→Meets H (prep as j) p.ids
 | [],j,p,_,h=>⟨fun j hj=>(by cases hj),rfl⟩
 | (mm,d)::as,j,p,h0,h=>by
  have hm:mm=0:=h0 (mm,d) (by simp)
  subst hm
  have h':=h
  simp only [prep,run_bindE,Option.bind_eq_some_iff,Eff.run,Option.some.injEq] at h'
  obtain ⟨y,h1,z,h2,rfl⟩:=h'
  obtain ⟨a1,a2⟩:=frz_rd _ _ _ h1
  obtain ⟨b1,b2⟩:=prep_rd (fun a ha=>h0 a (by simp [ha])) h2
  unfold Meets
  simp only [prep,(bind_rd h1).1,(bind_rd h1).2,(bind_rd h2).1,(bind_rd h2).2,Eff.rd,Eff.lv,List.append_nil,a2,b2]
  refine ⟨fun j hj=> ?_,trivial⟩
  rcases List.mem_append.1 hj with hj | hj
  ·exact List.mem_append_left _ (a1 j hj)
  ·exact List.mem_append_right _ (b1 j hj)
theorem newL_rd {H:Heap} {o:Out}: ∀ {is:List Nat},(newL is (.pure o)).rd H= []∧(newL is (.pure o)).lv H=is
 | []=>⟨rfl,rfl⟩
 | i::is=>by
  obtain ⟨h1,h2⟩:=newL_rd (H:=H) (o:=o) (is:=is)
  exact ⟨h1,by simp only [newL,Eff.lv,h2]⟩
section
variable {S:Nat→Type} [Sg:Sig S] {ρ ρ':Rho} {H H':Heap} {fr:Fr} {b N:Nat} {t:TS S} {s g:St} {α:Type} {pr:Prog}
theorem argsA_zero {t:TS S} {kp:Bool}: ∀ {ps:List PK} {args:List (Nat×PX)} {p:Flds S (pcs ps)},argsA t kp ps args=some p→ ∀a∈args,a.1=0
 | [],[],_,_=>fun a ha=>nomatch ha
 | .val c::ps,(m,x)::as,p,h=>fun a ha=>by
  simp only [argsA] at h
  split at h
  ·rename_i hm _ hp
   rcases List.mem_cons.mp ha with rfl | ha
   ·exact Nat.eq_of_beq_eq_true hm
   ·exact argsA_zero hp a ha
  ·cases h
 | .ptr c::ps,(m,x)::as,p,h=>fun a ha=>by
  simp only [argsA] at h
  split at h
  ·rename_i hm _ hp
   rcases List.mem_cons.mp ha with rfl | ha
   ·exact Nat.eq_of_beq_eq_true hm
   ·exact argsA_zero hp a ha
  ·cases h
 | .fn n::ps,(m,x)::as,p,h=>fun a ha=>by
  simp only [argsA] at h
  split at h
  ·rename_i hm _
   split at h
   ·rcases List.mem_cons.mp ha with rfl | ha
    ·exact Nat.eq_of_beq_eq_true hm
    ·exact argsA_zero h a ha
   ·cases h
  ·cases h
 | [],_::_,_,h=>nomatch h
 | .val _::_,[],_,h=>nomatch h
 | .ptr _::_,[],_,h=>nomatch h
 | .fn _::_,[],_,h=>nomatch h
theorem lent_okD (h:RelR fr b N ρ t g) {pn:Option Nat} {f:Nat} {c:Code} {ps:List PK} {rs:List RK} {F:T S c×Flds S (pcs ps)→Option (T S c×Flds S (rcs rs))} (hF:LOk pr f c ps rs F) {x:PX} {ob:Nat} {vs:List (Val S)} {a:T S c} {args:List (Nat×PX)} {p:Flds S (pcs ps)} {r:T S c×Flds S (rcs rs)} {res:Nat} {q:List (Val S)×TS S}
  (hx:evK t x=some (.ptr ob [] 0 0)) (ho:look t.hp ob=some (.box pn vs)) (ha:mk 11 c vs=some a) (hp:argsA t false ps args=some p) (hr:F (a,p)=some r) (hi:impT rs r.2 res (t.setO ob (.box pn [.one 1 c r.1]))=some q) (hv:rs.all valR=true) :
  ∃n o g' ρ',(callE (runN pr n) (b+res) f (((2,x)::args).map fun p=>(p.1,p.2.ev g.ts))).run g.hp=some o∧GhK ⟨g.ts,o.on g.hp⟩ g'∧RelR fr b N ρ' q.2 g'∧VS ρ' g'.hp (retT rs q.1) o.d∧(∀o p x,ρ o p=some x→ρ' o p=some x)∧HLe g.hp g'.hp∧ ∃id,ρ ob []=some (some id)∧(∀j∈(callE (runN pr n) (b+res) f (((2,x)::args).map fun p=>(p.1,p.2.ev g.ts))).rd g.hp,dead g.hp j∨j=id)∧(callE (runN pr n) (b+res) f (((2,x)::args).map fun p=>(p.1,p.2.ev g.ts))).lv g.hp= [id]∧o.ws.map (·.1)= [id]∧ ∀j∈o.fz,dead g.hp j:=by
 obtain ⟨ds,ids,p1,p2,p3⟩:=argsA_ok h (j:=1) hp
 obtain ⟨id,sz,es,c1,c2,c3,c4⟩:=h.ev hx
 obtain ⟨id',cs,k1,k2,k3,k9⟩:=h.hp _ _ ho
 rw [c1] at k1;cases k1
 rw [c2] at k2;cases k2
 rw [Nat.zero_mul,Nat.zero_add] at c4
 have hcs:=mk_ok (by omega) ha k3
 have hw:widths vs=W (S:=S) c:=by rw [← k3.len, ← hcs.len,encs_len]
 rw [hw] at c2
 obtain ⟨z,z1,z2,z3⟩:=cls_each (P:=fun _=>False) (Nat.le_refl 11) hcs
 have z3: ∀i∈z.2,dead g.hp i:=fun i hi=>(z3 i hi).elim (fun q=>q) fun q=>q.elim
 have zE:(eachE (frz fuelF) [cs]).run g.hp=some ([z.1],z.2):=by
  have:(eachE (frz 11) [cs]).run g.hp=some ([z.1],z.2):=by simp [eachE,run_bindE,z1,Eff.run]
  exact eachE_up (by decide) this
 have hids: ∀j∈z.2++ids,dead g.hp j:=by
  intro j hj
  simp at hj
  rcases hj with hj | hj
  ·exact z3 j hj
  ·rcases p3 j hj with h | ⟨h,_⟩
   ·exact h
   ·cases h
 have hprep:(prep (((2,x)::args).map fun p=>(p.1,p.2.ev g.ts)) 0).run g.hp=some ⟨.ptr 0 0::ds,[.row (W (S:=S) c) [z.1] true],z.2++ids,[(id,true)]⟩:=by
  simp only [List.map_cons,c4,prep,Eff.run,c2,if_true,run_bindE,zE,Option.bind_some,p1]
 obtain ⟨n,d,H',r1,r2,xs,hd',rd,cs2,ry,e1,e2,e3,e4,e5,e6,e7,e8,e9,e10⟩:=hF (a,p) r hr z.1 ds (nrs_cl z2) p2
 have hidl:id<g.hp.length:=hat_ltK (by rw [c2];intro e;cases e)
 have hs1:RelR fr b N ρ (t.setO ob (.box pn [.one 1 c r.1])) ⟨g.ts,g.hp.set id (.row (W (S:=S) c) [cs2] true)⟩:=h.upd (es:= [cs]) (es':= [cs2]) c1 c2 rfl fun hx e1 _=>⟨id,cs2,c1,by rw [e1];simp [widths,width],VCs.single (cls_heap (HLe.nil _) e6),k9⟩
 obtain ⟨g',ρ',q1,q2,q3,q4,q5⟩:=imp_ok (k:=res) e4 (GhK.refl ⟨g.ts,g.hp.set id (.row (W (S:=S) c) [cs2] true)⟩) hs1 hi
 have hne: ∀j,dead g.hp j→j≠id:=fun j hj e=>by
  obtain ⟨_,_,hj⟩:=hj
  rw [e,c2] at hj;cases hj
 have hl:(impL (b+res) xs).1.length=rs.length:=by
  have: ∀ {l:List D} {r:Nat},(impL r l).1.length=l.length:=by
   intro l
   induction l with
   | nil=>intro r;rfl
   | cons d l ih=>intro r;simp [impL,ih]
  rw [this,e4.len]
 refine ⟨n,⟨recomp d (impL (b+res) xs).1,(id,.row (W (S:=S) c) [cs2] true)::(impL (b+res) xs).2,z.2++ids⟩,g',ρ',?_,?_,q2,ret_ok r2 hl q4,q3.map,(HLe_set (fun _ _ e=>by rw [c2] at e;cases e)).tr q3.hle,id,c1,?_,?_,?_,hids⟩
 ·have hap:apart [id] (z.2++ids)=true:=by
   simp only [apart,List.all_eq_true,Bool.not_eq_true',List.contains_eq_mem,decide_eq_false_iff_not]
   intro j hj hm
   simp only [List.mem_singleton] at hj
   exact hne j (hids j hm) hj
  have hnd:nodup [id]=true:=by simp [nodup]
  unfold callE
  rw [run_bindE,hprep]
  simp only [Option.bind_some,List.map_cons,List.map_nil,hap,hnd,Bool.and_self,if_true,r1,finish,e1,expB_id e5 id,boxKs]
  simp only [e2,e3,e7,e8,e9,e10,Bool.and_self,if_true,List.isEmpty_cons,Bool.false_and,Bool.false_eq_true,if_false]
  rw [newL_run (fun j hj=> ?_)]
  ·rfl
  ·obtain ⟨f1,f2⟩:=q5 j hj
   rw [hat_setK hidl] at f1
   split at f1
   ·cases f1
   ·exact ⟨f1,by simpa using f2⟩
 ·show GhK ⟨g.ts,doFz (doWs (g.hp.set id _) _) _⟩ g'
  rw [doFz_dead (fun j hj=> ?_)]
  ·exact q1
  ·obtain ⟨sz',es',hj'⟩:=hids j hj
   have hn:=hne j (hids j hj)
   have h1:hat (g.hp.set id (.row (W (S:=S) c) [cs2] true)) j= .row sz' es' false:=by rw [hat_setK hidl,if_neg hn];exact hj'
   refine ⟨sz',es',?_⟩
   rw [hat_doWs (fun j' hj' e=> ?_)]
   ·exact h1
   ·subst e
    have:=(q5 j hj').1
    rw [h1] at this;cases this
 ·intro j hj
  have hz: ∀a∈args.map (fun p=>(p.1,p.2.ev g.ts)),a.1=0:=fun a ha=>by
   obtain ⟨y,hy,rfl⟩:=List.mem_map.mp ha
   exact argsA_zero hp y hy
  unfold callE at hj
  rw [(bind_rd hprep).1] at hj
  rcases List.mem_append.1 hj with hj | hj
  ·simp only [List.map_cons,c4,prep,Eff.rd,c2,if_true] at hj
   rw [(bind_rd zE).1,(bind_rd p1).1] at hj
   simp only [List.mem_cons,List.mem_append,Eff.rd,List.not_mem_nil,or_false] at hj
   rcases hj with hj | hj | hj
   ·exact .inr hj
   ·exact .inl (hids j (List.mem_append_left _ ((eachE_rd (frz_rd _) zE).1 j hj)))
   ·exact .inl (hids j (List.mem_append_right _ ((prep_rd hz p1).1 j hj)))
  ·exfalso
   have hap:apart [id] (z.2++ids)=true:=by
    simp only [apart,List.all_eq_true,Bool.not_eq_true',List.contains_eq_mem,decide_eq_false_iff_not]
    intro j hj hm
    simp only [List.mem_singleton] at hj
    exact hne j (hids j hm) hj
   have hnd:nodup [id]=true:=by simp [nodup]
   simp only [List.map_cons,List.map_nil,hap,hnd,Bool.and_self,if_true,r1,finish,e1,expB_id e5 id,boxKs,Option.bind_some] at hj
   simp only [e2,e3,e7,e8,e9,e10,Bool.and_self,if_true,List.isEmpty_cons,Bool.false_and,Bool.false_eq_true,if_false,newL_rd.1] at hj
   cases hj
 ·have hz: ∀a∈args.map (fun p=>(p.1,p.2.ev g.ts)),a.1=0:=fun a ha=>by
   obtain ⟨y,hy,rfl⟩:=List.mem_map.mp ha
   exact argsA_zero hp y hy
  unfold callE
  rw [(bind_rd hprep).2]
  have hap:apart [id] (z.2++ids)=true:=by
   simp only [apart,List.all_eq_true,Bool.not_eq_true',List.contains_eq_mem,decide_eq_false_iff_not]
   intro j hj hm
   simp only [List.mem_singleton] at hj
   exact hne j (hids j hm) hj
  have hnd:nodup [id]=true:=by simp [nodup]
  simp only [List.map_cons,List.map_nil,hap,hnd,Bool.and_self,if_true,r1,finish,e1,expB_id e5 id,boxKs,Option.bind_some]
  simp only [e2,e3,e7,e8,e9,e10,Bool.and_self,if_true,List.isEmpty_cons,Bool.false_and,Bool.false_eq_true,if_false,newL_rd.2,val_ws hv e4,List.map_nil,List.append_nil]
  simp only [c4,prep,Eff.lv,c2,if_true]
  rw [(bind_rd zE).2,(bind_rd p1).2,(eachE_rd (frz_rd _) zE).2,(prep_rd hz p1).2]
  rfl
 ·rw [val_ws hv e4]
  rfl
end
end Go.Pi
namespace Go.Pi
set_option linter.unusedVariables false
def clsO (nq:Nat→Bool):POp→Nat
 | .mv _ | .pick _ _ _ | .build _ _ | .bin _ _ _ | .eqB _ _ _ | .eqNS _ _ | .eqNP _ _ | .eqA _ _ _ _ | .un _ _ | .sliceS _ _ _ | .fieldAddr _ _ _ | .field _ _ _ _ | .indexAddrA _ _ _ _ | .index _ _ _ _ _ |
  .indexS _ _ | .extract _ _ | .len _ | .lenS _ | .minmax _ _ _ | .bits _ | .ofBits _ | .nilCheck _=>0
 | .load _ _ _ | .slice _ _ _ _ | .indexAddr _ _ _ | .conv _ _ | .callV _ _ _=>1
 | .call f _=>bif nq f then 2 else 1
 | _=>2
def okPair (p q:Nat):Bool:=p==0 || q==0 || (p==1&&q==1)
def okPairs (nq:Nat→Bool) (q:PO):List PO→Nat→Bool
 | [],_=>true
 | p::ps,j=>(q.after.contains j || okPair (clsO nq p.op) (clsO nq q.op))&&okPairs nq q ps (j+1)
def okRegion (nq:Nat→Bool):List PO→List PO→Bool
 | _,[]=>true
 | pre,q::qs=>okPairs nq q pre 0&&okRegion nq (pre ++ [q]) qs
def quietO' (nq:Nat→Bool) (o:PO):PO:=match o.op with
 | .call f args=>bif nq f then o else { o with op:= .callQ f args }
 | _=>o
def undraw (nq:Nat→Bool):PC→PC
 | .region true k ops=>if okRegion nq [] ops then .region false k (ops.map (quietO' nq)) else .region true k ops
 | .seq a b=> .seq (undraw nq a) (undraw nq b)
 | .cond c x y=> .cond c (undraw nq x) (undraw nq y)
 | .block id c=> .block id (undraw nq c)
 | .loop c=> .loop (undraw nq c)
 | c=>c
def undrawF (nq:Nat→Bool) (f:PF):PF:=⟨f.ntmps,f.results,undraw nq f.body,f.orc⟩
section
variable {c:CallF} {b:Nat} {nq:Nat→Bool}
def Fp.none (a:Fp):Prop:=a.rd= []∧a.lv= []∧a.wr= []∧a.fz= []∧a.all=false
def Fp.calm (a:Fp):Prop:=a.wr= []∧a.fz= []∧a.all=false
def fpOk (k:Nat) (a:Fp):Prop:=(k=0→a.none)∧(k=1→a.calm)
theorem meets_nil_left (xs:List Nat):meets [] xs=false:=rfl
theorem meets_nil_right (xs:List Nat):meets xs []=false:=by induction xs<;>simp_all [meets]
theorem clash_of {k m:Nat} {x y:Fp} (h:okPair k m=true) (hx:fpOk k x) (hy:fpOk m y):clash x y=false:=by
 simp only [okPair,Bool.or_eq_true,beq_iff_eq,Bool.and_eq_true] at h
 rcases h with (h | h) | ⟨h1,h2⟩
 ·obtain ⟨a,b,c,d,e⟩:=hx.1 h
  simp [clash,Fp.idle,a,b,c,d,e,meets_nil_left,meets_nil_right]
 ·obtain ⟨a,b,c,d,e⟩:=hy.1 h
  simp [clash,Fp.idle,a,b,c,d,e,meets_nil_left,meets_nil_right]
 ·obtain ⟨a,b,c⟩:=hx.2 h1
  obtain ⟨a',b',c'⟩:=hy.2 h2
  simp [clash,a,b,c,a',b',c',meets_nil_left]
def idleE:Eff Out→Prop
 | .pure o=>o.ws= []∧o.fz= []
 | .fail=>True
 | _=>False
def calmE:Eff Out→Prop
 | .pure o=>o.ws= []∧o.fz= []
 | .fail=>True
 | .get _ k=> ∀sz es,calmE (k sz es)
 | _=>False
theorem idle_quiet (d:D):idleE (quiet d):=⟨rfl,rfl⟩
theorem idle_quietO (d:Option D):idleE (quietO d):=by cases d<;>simp [quietO,idleE,quiet]
theorem calm_of_idle: ∀ {e:Eff Out},idleE e→calmE e
 | .pure _,h=>h
 | .fail,h=>h
 | .get _ _,h=>absurd h (by simp [idleE])
 | .live _ _,h=>absurd h (by simp [idleE])
 | .new _ _,h=>absurd h (by simp [idleE])
theorem idle_run {e:Eff Out} (h:idleE e) {H:Heap} {x:Out} (hr:e.run H=some x):x.ws= []∧x.fz= []∧e.rd H= []∧e.lv H= []:=by
 cases e with
 | pure o=>simp only [Eff.run,Option.some.injEq] at hr;subst hr;exact ⟨h.1,h.2,rfl,rfl⟩
 | fail=>simp [Eff.run] at hr
 | get _ _=>exact absurd h (by simp [idleE])
 | live _ _=>exact absurd h (by simp [idleE])
 | new _ _=>exact absurd h (by simp [idleE])
theorem calm_run: ∀ {e:Eff Out},calmE e→ ∀ {H:Heap} {x:Out},e.run H=some x→x.ws= []∧x.fz= []
 | .pure o,h,H,x,hr=>by simp only [Eff.run,Option.some.injEq] at hr;subst hr;exact h
 | .fail,h,H,x,hr=>by simp [Eff.run] at hr
 | .get _ k,h,H,x,hr=>by
  simp only [Eff.run] at hr
  split at hr
  ·exact calm_run (h _ _) hr
  ·cases hr
 | .live _ _,h,_,_,_=>absurd h (by simp [calmE])
 | .new _ _,h,_,_,_=>absurd h (by simp [calmE])
theorem calm_quiet (d:D):calmE (quiet d):=⟨rfl,rfl⟩
theorem calm_quietO (d:Option D):calmE (quietO d):=calm_of_idle (idle_quietO d)
theorem opE_idle {ρ:PX→D} {r:Nat} {op:POp} (hk:clsO nq op=0):idleE (opE c ρ r op):=by
 cases op<;>first | (simp [clsO] at hk;done) | skip
 case call f a=>
  simp only [clsO] at hk
  cases h:nq f<;>rw [h] at hk<;>cases hk
 all_goals simp only [opE]
 all_goals repeat' split
 all_goals first | exact idle_quiet _ | exact idle_quietO _ | exact trivial
theorem opE_calm {ρ:PX→D} {r:Nat} {op:POp} (hk:clsO nq op=1) (hc: ∀f a,op ≠ .call f a) (hv: ∀x y a,op ≠ .callV x y a):calmE (opE c ρ r op):=by
 cases op<;>first | (simp [clsO] at hk;done) | skip
 case call f a=>exact absurd rfl (hc f a)
 case callV f y a=>exact absurd rfl (hv f y a)
 all_goals simp only [opE]
 all_goals repeat' split
 all_goals first | exact calm_quiet _ | exact calm_quietO _ | exact trivial | (intro sz es;simp only [];repeat' split)
 all_goals first | exact calm_quiet _ | exact calm_quietO _ | exact trivial
theorem stepFp_ok {o:PO} {s s':St} (h:stepO c b (quietO' nq o) s=some s'):stepO c b o s=some s'∧fpOk (clsO nq o.op) (stepFp c b o s):=by
 obtain ⟨dst,op,g,l,res⟩:=o
 by_cases hn: ∃f a,op= .call f a∧nq f=true
 ·obtain ⟨f,a,rfl,hn⟩:=hn
  rw [show quietO' nq ⟨dst,.call f a,g,l,res⟩=⟨dst,.call f a,g,l,res⟩ by simp only [quietO',hn,cond_true]] at h
  exact ⟨h,fun e=>by simp [clsO,hn] at e,fun e=>by simp [clsO,hn] at e⟩
 unfold stepO at h
 have hg:(quietO' nq ⟨dst,op,g,l,res⟩).guard=g∧(quietO' nq ⟨dst,op,g,l,res⟩).dst=dst∧(quietO' nq ⟨dst,op,g,l,res⟩).res=res:=by
  unfold quietO'
  split
  ·rename_i f a _
   cases nq f<;>simp
  ·simp
 rw [hg.1,hg.2.1,hg.2.2] at h
 split at h
 ·rename_i h1
  split at h
  ·rename_i h2
   by_cases hcall: ∃f a,op= .call f a
   ·obtain ⟨f,a,rfl⟩:=hcall
    have hn':nq f=false:=by
     cases h:nq f with
     | false=>rfl
     | true=>exact absurd ⟨f,a,rfl,h⟩ hn
    have hn:=hn'
    rw [show quietO' nq ⟨dst,.call f a,g,l,res⟩=⟨dst,.callQ f a,g,l,res⟩ by simp only [quietO',hn,cond_false]] at h
    simp only [opE] at h
    obtain ⟨x,h3,h4⟩:=Option.map_eq_some_iff.1 h
    rw [run_bindE] at h3
    obtain ⟨y,h5,h6⟩:=Option.bind_eq_some_iff.1 h3
    split at h6
    ·rename_i hq
     simp only [Eff.run,Option.some.injEq] at h6
     subst h6
     simp only [Bool.and_eq_true,List.isEmpty_iff] at hq
     refine ⟨by simp only [stepO,h1,h2,if_true,opE,h5];exact congrArg some h4,fun h=>absurd h (by simp [clsO,hn]),fun _=> ?_⟩
     simp only [stepFp,h2,if_true,opE,h5,Fp.calm,hq.1,hq.2,List.map_nil,and_self]
    ·simp [Eff.run] at h6
   ·have hq:quietO' nq ⟨dst,op,g,l,res⟩=⟨dst,op,g,l,res⟩:=by
     unfold quietO'
     split
     ·rename_i f a e;exact absurd ⟨f,a,e⟩ hcall
     ·rfl
    rw [hq] at h
    refine ⟨by simp only [stepO,h1,h2,if_true];exact h,?_⟩
    cases op
    case callH f a=>exact ⟨fun h=>absurd h (by simp [clsO]),fun h=>absurd h (by simp [clsO])⟩
    case callV fs y a=>
     obtain ⟨x,h3,h4⟩:=Option.map_eq_some_iff.1 h
     refine ⟨fun h=>absurd h (by simp [clsO]),fun _=> ?_⟩
     have h5:=h3
     simp only [opE] at h5
     split at h5
     ·split at h5
      case isFalse=>simp [Eff.run] at h5
      rw [run_bindE] at h5
      obtain ⟨z,h6,h7⟩:=Option.bind_eq_some_iff.1 h5
      split at h7
      ·rename_i hq
       simp only [Eff.run,Option.some.injEq] at h7
       subst h7
       simp only [Bool.and_eq_true,List.isEmpty_iff] at hq
       simp only [stepFp,h2,if_true,h3,Fp.calm,hq.1,hq.2,List.map_nil,and_self]
      ·simp [Eff.run] at h7
     ·simp [Eff.run] at h5
    all_goals
     obtain ⟨x,h3,h4⟩:=Option.map_eq_some_iff.1 h
     refine ⟨fun hk=> ?_,fun hk=> ?_⟩
     ·obtain ⟨a1,a2,a3,a4⟩:=idle_run (opE_idle (c:=c) (ρ:=PX.ev s.ts) (r:=b+res) hk) h3
      simp only [stepFp,h2,if_true,h3,Fp.none,a1,a2,a3,a4,List.map_nil,and_self]
     ·obtain ⟨a1,a2⟩:=calm_run (opE_calm (c:=c) (ρ:=PX.ev s.ts) (r:=b+res) hk (fun f a e=>hcall ⟨f,a,e⟩) (fun _ _ _ e=>by cases e)) h3
      simp only [stepFp,h2,if_true,h3,Fp.calm,a1,a2,List.map_nil,and_self]
  ·rename_i h2
   refine ⟨by simp only [stepO,h1,h2,if_true];exact h,?_⟩
   simp only [stepFp,h2]
   exact ⟨fun _=>⟨rfl,rfl,rfl,rfl,rfl⟩,fun _=>⟨rfl,rfl,rfl⟩⟩
 ·cases h
def SeenOk (nq:Nat→Bool):List PO→List (Nat×Fp)→Prop
 | pre,seen=> ∀p∈seen, ∃o,pre[p.1]? = some o∧fpOk (clsO nq o.op) p.2
theorem okPairs_at {q:PO}: ∀ {pre:List PO} {j:Nat},okPairs nq q pre j=true→ ∀k o,pre[k]? = some o→q.after.contains (j+k)=true∨okPair (clsO nq o.op) (clsO nq q.op)=true
 | [],j,_,k,o,h=>by simp at h
 | p::ps,j,h,k,o,ho=>by
  simp only [okPairs,Bool.and_eq_true,Bool.or_eq_true] at h
  cases k with
  | zero=>simp at ho;subst ho;exact h.1
  | succ k=>
   have:=okPairs_at h.2 k o (by simpa using ho)
   rwa [show j+(k+1)=j+1+k by omega]
theorem seqD_of: ∀ {qs pre:List PO} {seen:List (Nat×Fp)} {s s':St},okRegion nq pre qs=true→SeenOk nq pre seen→seqR c b (qs.map (quietO' nq)) s=some s'→seqD c b qs pre.length seen s=some s'
 | [],pre,seen,s,s',_,_,h=>h
 | q::qs,pre,seen,s,s',hok,hs,h=>by
  simp only [okRegion,Bool.and_eq_true] at hok
  simp only [List.map_cons,seqR] at h
  obtain ⟨s1,h1,h2⟩:=Option.bind_eq_some_iff.1 h
  obtain ⟨k1,k2⟩:=stepFp_ok h1
  have hall:(seen.all fun p=>q.after.contains p.1 || !clash p.2 (stepFp c b q s))=true:=by
   rw [List.all_eq_true]
   intro p hp
   obtain ⟨o,ho,hf⟩:=hs p hp
   rcases okPairs_at hok.1 p.1 o ho with h | h
   ·rw [Nat.zero_add] at h;rw [h];rfl
   ·simp [clash_of h hf k2]
  simp only [seqD,hall,if_true,k1,Option.bind_some]
  have:=seqD_of (pre:=pre ++ [q]) (seen:=(pre.length,stepFp c b q s)::seen) hok.2 (fun p hp=>by
   simp only [List.mem_cons] at hp
   rcases hp with rfl | hp
   ·exact ⟨q,by simp,k2⟩
   ·obtain ⟨o,ho,hf⟩:=hs p hp
    refine ⟨o,?_,hf⟩
    rw [List.getElem?_append_left (List.getElem?_eq_some_iff.1 ho).1]
    exact ho) h2
  simpa using this
theorem code_undraw {n:Nat}: ∀ {p:PC} {s:St} {r:Ex×St},code c n (undraw nq p) s=some r→code c n p s=some r:=by
 intro p
 induction p with
 | skip=>exact fun h=>h
 | region draw k ops=>
  intro s r h
  cases draw with
  | false=>exact h
  | true=>
   simp only [undraw] at h
   split at h
   ·rename_i hok
    simp only [code,Bool.false_eq_true,if_false] at h
    obtain ⟨s1,h1,h2⟩:=Option.map_eq_some_iff.1 h
    simp only [code,if_true]
    have:=seqD_of (pre:= []) (seen:= []) hok (fun p hp=>by simp at hp) h1
    rw [show ([]:List PO).length=0 from rfl] at this
    rw [this]
    exact congrArg some h2
   ·exact h
 | seq a b iha ihb=>
  intro s r h
  simp only [undraw,code] at h ⊢
  cases ha:code c n (undraw nq a) s with
  | none=>rw [ha] at h;cases h
  | some x=>
   rw [iha ha]
   rw [ha] at h
   obtain ⟨ex,s1⟩:=x
   cases ex with
   | normal=>exact ihb h
   | exit i=>exact h
   | ret=>exact h
 | cond q x y ihx ihy=>
  intro s r h
  simp only [undraw,code] at h ⊢
  split at h
  ·rename_i b hb
   split at h
   ·rename_i e;simp only [e,if_true];exact ihx h
   ·rename_i e;simp only [e];exact ihy h
  ·cases h
 | block id q ih=>
  intro s r h
  simp only [undraw,code] at h ⊢
  cases ha:code c n (undraw nq q) s with
  | none=>rw [ha] at h;cases h
  | some x=>
   rw [ih ha]
   rw [ha] at h
   exact h
 | loop q ih=>
  intro s r h
  exact loopN_mono (fun s r h=>ih h) (Nat.le_refl _) h
 | exit id=>exact fun h=>h
 | ret=>exact fun h=>h
end
theorem runN_undraw {nq:Nat→Bool} {P P':Prog} (hp: ∀f pf',P' f=some pf'→ ∃pf,P f=some pf∧pf'=undrawF nq pf): ∀n,CallLe (runN P' n) (runN P n)
 | 0=>fun f a H x h=>by simp [runN] at h
 | n+1=>fun f a H x h=>by
  simp only [runN] at h ⊢
  cases hf:P' f with
  | none=>rw [hf] at h;cases h
  | some pf'=>
   obtain ⟨pf,h1,rfl⟩:=hp f pf' hf
   rw [hf] at h
   rw [h1]
   simp only [undrawF] at h ⊢
   split
   ·rename_i g hg;rw [hg] at h;exact h
   rename_i hg
   rw [hg] at h
   simp only at h ⊢
   cases hcode:code (runN P' n) n (undraw nq pf.body) ⟨a++List.replicate (pf.ntmps-a.length) .undef,H⟩ with
   | none=>rw [hcode] at h;cases h
   | some r=>
    rw [code_mono (runN_undraw hp n) (Nat.le_refl n) (code_undraw hcode)]
    rw [hcode] at h
    exact h
end Go.Pi
namespace Go.Pi
set_option linter.unusedVariables false
def refOf:D→Option Nat
 | .ref id _ _=>some id
 | .ptr id _=>some id
 | _=>none
def spO:POp→Option (Nat×List PX)
 | .load _ _ x=>some (0,[x])
 | .indexAddr _ x _=>some (0,[x])
 | .slice _ x _ _=>some (0,[x])
 | .alloc _=>some (1,[])
 | .buildSlice _ _ _ _=>some (1,[])
 | .makeSlice _ _ _ _ _=>some (1,[])
 | .store _ a _=>some (2,[a])
 | _=>none
theorem opE_touch {call:CallF} {ρ:PX→D} {r:Nat} {op:POp} {H:Heap} {out:Out} {k:Nat} {xs:List PX} (hs:spO op=some (k,xs)) (h:(opE call ρ r op).run H=some out) :
  (∀id∈(opE call ρ r op).rd H, ∃x∈xs,refOf (ρ x)=some id) ∧
  (∀id∈(opE call ρ r op).lv H,(id=r∧k=1) ∨ ∃x∈xs,refOf (ρ x)=some id∧ ∃sz es,hat H id= .row sz es true) ∧
  (∀w∈out.ws,(w.1=r∧k=1) ∨ ∃x∈xs,refOf (ρ x)=some w.1∧ ∃sz es,hat H w.1= .row sz es true)∧out.fz= []∧(k=0→out.ws= []):=by
 have qO: ∀ {d:Option D} {out:Out},(quietO d).run H=some out→out.ws= []∧out.fz= []∧(quietO d).rd H= []∧(quietO d).lv H= []:=by
  intro d out h
  cases d with
  | none=>cases h
  | some d=>cases h;exact ⟨rfl,rfl,rfl,rfl⟩
 cases op<;>cases hs
 case load ag n x=>
  simp only [opE] at h ⊢
  cases hx:ρ x with
  | ptr id off=>
   simp only [hx,Eff.run] at h
   split at h
   ·rename_i sz es lv hh
    simp only [hx,Eff.rd,Eff.lv,hh]
    cases he:es[off / sz]? with
    | none=>rw [he] at h;cases h
    | some e=>
     rw [he] at h
     simp only at h
     split at h
     ·obtain ⟨a1,a2,a3,a4⟩:=qO h
      rename_i hc
      simp only [hc,if_true,a3,a4,a1,a2]
      exact ⟨fun j hj=>⟨x,by simp,by simp at hj;subst hj;rw [hx];rfl⟩,by simp,by simp,trivial,fun _=>trivial⟩
     ·cases h
   ·cases h
  | fptr cs=>
   simp only [hx] at h ⊢
   split at h
   ·rename_i hc
    obtain ⟨a1,a2,a3,a4⟩:=qO h
    simp only [hc,if_true,a3,a4,a1,a2]
    exact ⟨by simp,by simp,by simp,trivial,fun _=>trivial⟩
   ·cases h
  | _=>simp only [hx] at h;cases h
 case slice sz x lo hi=>
  simp only [opE] at h ⊢
  cases hx:ρ x with
  | nil=>
   rw [hx] at h
   obtain ⟨a1,a2,a3,a4⟩:=qO h
   simp only [a3,a4,a1,a2]
   exact ⟨by simp,by simp,by simp,trivial,fun _=>trivial⟩
  | lst s es=>
   simp only [hx] at h ⊢
   split at h
   ·rename_i hc
    obtain ⟨a1,a2,a3,a4⟩:=qO h
    simp only [if_pos hc,a3,a4,a1,a2]
    exact ⟨by simp,by simp,by simp,trivial,fun _=>trivial⟩
   ·cases h
  | ref id off len=>
   simp only [hx,Eff.run] at h
   split at h
   ·rename_i s es lv hh
    simp only [Eff.rd,Eff.lv,hh]
    split at h
    ·rename_i hc
     obtain ⟨a1,a2,a3,a4⟩:=qO h
     simp only [if_pos hc,a3,a4,a1,a2]
     exact ⟨fun j hj=>⟨x,by simp,by simp at hj;subst hj;rw [hx];rfl⟩,by simp,by simp,trivial,fun _=>trivial⟩
    ·cases h
   ·cases h
  | _=>simp only [hx] at h;cases h
 case indexAddr sz x i=>
  simp only [opE] at h ⊢
  cases hi:ρ i with
  | int k z=>
   simp only [hi] at h ⊢
   cases hx:ρ x with
   | ref id off len=>
    simp only [hx,Eff.run] at h
    split at h
    ·rename_i sz' es lv hh
     simp only [hx,Eff.rd,Eff.lv,hh]
     split at h
     ·rename_i hc
      cases h
      simp only [hc,if_true]
      exact ⟨fun j hj=>⟨x,by simp,by simp [quiet,Eff.rd] at hj;subst hj;rw [hx];rfl⟩,by simp [quiet,Eff.lv],by simp,by simp,by simp⟩
     ·cases h
    ·cases h
   | lst s es=>
    simp only [hx] at h ⊢
    split at h
    ·rename_i hc
     simp only [hc,if_true]
     cases he:es[z.toNat]? with
     | none=>rw [he] at h;cases h
     | some e=>rw [he] at h;cases h;exact ⟨by simp [quiet,Eff.rd],by simp [quiet,Eff.lv],by simp,by simp,by simp⟩
    ·cases h
   | _=>simp only [hx] at h;cases h
  | _=>simp only [hi] at h;cases h
 case alloc z=>
  simp only [opE,Eff.run] at h
  split at h
  ·split at h
   ·cases h
    simp only [opE,Eff.rd,Eff.lv]
    exact ⟨by simp,fun id hid=> .inl ⟨by simpa using hid,by first | rfl | trivial⟩,fun w hw=> .inl ⟨by simp at hw;rw [hw],by first | rfl | trivial⟩,by first | rfl | trivial,by simp⟩
   ·cases h
  ·cases h
 case buildSlice sz n z ps=>
  simp only [opE] at h ⊢
  split at h
  ·rename_i hc
   rw [if_pos hc]
   split at h
   ·rename_i es he
    try simp only [he]
    simp only [Eff.run] at h
    split at h
    ·split at h
     ·cases h
      simp only [Eff.rd,Eff.lv]
      exact ⟨by simp,fun id hid=> .inl ⟨by simpa using hid,by first | rfl | trivial⟩,fun w hw=> .inl ⟨by simp at hw;rw [hw],by first | rfl | trivial⟩,by first | rfl | trivial,by simp⟩
     ·cases h
    ·cases h
   ·cases h
  ·cases h
 case makeSlice sz by' z l c=>
  simp only [opE] at h ⊢
  split at h
  ·split at h
   ·rename_i hc
    rw [if_pos hc]
    simp only [Eff.run] at h
    split at h
    ·split at h
     ·cases h
      simp only [Eff.rd,Eff.lv]
      exact ⟨by simp,fun id hid=> .inl ⟨by simpa using hid,by first | rfl | trivial⟩,fun w hw=> .inl ⟨by simp at hw;rw [hw],by first | rfl | trivial⟩,by first | rfl | trivial,by simp⟩
     ·cases h
    ·cases h
   ·cases h
  ·cases h
 case store n a x=>
  simp only [opE] at h ⊢
  cases hx:ρ a with
  | ptr id off=>
   simp only [hx,Eff.run] at h
   split at h
   ·rename_i sz es hh
    rw [hh] at h
    simp only at h
    simp only [hx,Eff.rd,Eff.lv,hh]
    cases he:es[off / sz]? with
    | none=>rw [he] at h;cases h
    | some e=>
     rw [he] at h
     simp only at h
     split at h
     ·rename_i hc
      cases h
      simp only []
      rw [if_pos hc]
      simp only [Eff.rd,Eff.lv]
      have hr: ∃y ∈ [a],refOf (ρ y)=some id:=⟨a,by simp,by rw [hx];rfl⟩
      refine ⟨fun j hj=> ?_,fun j hj=> .inr ?_,fun w hw=> .inr ?_,by simp,fun e=>nomatch e⟩
      ·simp at hj;subst hj;exact hr
      ·simp at hj;subst hj;exact ⟨a,by simp,by rw [hx];rfl,_,_,hh⟩
      ·simp at hw;subst hw;exact ⟨a,by simp,by rw [hx];rfl,_,_,hh⟩
     ·cases h
   ·cases h
  | _=>simp only [hx] at h;cases h
section
variable {S:Nat→Type} [Sg:Sig S] {ρ ρ':Rho} {H H':Heap} {fr:Fr} {b N:Nat} {t:TS S} {s g:St} {α:Type} {pr:Prog}
def objV:Val S→Option (List Nat)
 | .whole o _=>some [o]
 | .win o _ _ _=>some [o]
 | .ptr o _ _ _=>some [o]
 | .pa o _ _ _=>some [o]
 | .one _ _ _=>some []
 | .fp _ _ _ _=>some []
 | .nil=>some []
 | _=>none
def Tch (ρ:Rho) (os:List Nat) (id:Nat):Prop:= ∃o∈os, ∃p,ρ o p=some (some id)
theorem Tch.up {os os':List Nat} (h: ∀o∈os,o∈os') (hm: ∀o p x,ρ o p=some x→ρ' o p=some x) {id:Nat}:Tch ρ os id→Tch ρ' os' id:=fun ⟨o,h1,p,h2⟩=>⟨o,h o h1,p,hm _ _ _ h2⟩
theorem cl_ref {n:Nat} {v d:D} {id:Nat} (h:Cl H n v d) (hr:refOf d=some id):dead H id:=by
 obtain ⟨z,h1,_,h3⟩:=h.frz
 cases n with
 | zero=>exact h.elim
 | succ n=>
  cases d with
  | ref i off len=>
   cases hr
   simp only [frz,Eff.run] at h1
   split at h1
   ·split at h1
    ·rw [run_bindE,Option.bind_eq_some_iff] at h1
     obtain ⟨y,_,h1⟩:=h1
     cases h1
     exact h3 _ (by simp)
    ·cases h1
   ·cases h1
  | ptr i off=>
   cases hr
   simp only [frz,Eff.run] at h1
   split at h1
   ·rename_i sz es lv hh
    cases he:es[off / sz]? with
    | none=>rw [he] at h1;cases h1
    | some e=>
     rw [he] at h1
     simp only at h1
     rw [run_bindE,Option.bind_eq_some_iff] at h1
     obtain ⟨y,_,h1⟩:=h1
     cases h1
     exact h3 _ (by simp)
   ·cases h1
  | _=>cases hr
theorem obj_ref {v:Val S} {d:D} {os:List Nat} {id:Nat} (ho:objV v=some os) (h:VS ρ H v d) (hr:refOf d=some id):dead H id∨Tch ρ os id:=by
 cases v with
 | nil=>
  have:d= .nil:=h
  subst this
  cases hr
 | whole o p=>
  cases ho
  rcases h with ⟨id',_,_,h1,_,rfl⟩ | ⟨_,rfl⟩
  ·cases hr;exact .inr ⟨o,by simp,p,h1⟩
  ·cases hr
 | win o p off len=>
  cases ho
  rcases h with ⟨id',_,_,h1,_,_,rfl⟩ | ⟨_,_,_,rfl⟩
  ·cases hr;exact .inr ⟨o,by simp,p,h1⟩
  ·cases hr
 | ptr o p i j=>
  cases ho
  obtain ⟨id',_,_,h1,_,_,rfl⟩:=h
  cases hr;exact .inr ⟨o,by simp,p,h1⟩
 | pa o j z len=>
  cases ho
  obtain ⟨id',_,_,h1,_,_,_,rfl⟩:=h
  cases hr;exact .inr ⟨o,by simp,[],h1⟩
 | one n c x=>
  simp only [VS,VSx] at h
  split at h
  ·obtain ⟨ds,rfl,_⟩:=h;cases hr
  ·match hq:en c x,h with
   | [a],h=>exact .inl (cl_ref h.1 hr)
 | fp n c x j=>
  obtain ⟨r,h⟩:=h
  exact .inl (cl_ref h hr)
 | _=>cases ho
structure Fin' (ρ:Rho) (H:Heap) (wo ro:List Nat) (f:Fp):Prop where
 all:f.all=false
 rd: ∀id∈f.rd,dead H id∨Tch ρ (wo++ro) id
 fz: ∀id∈f.fz,dead H id∨Tch ρ wo id
 lv: ∀id∈f.lv,Tch ρ (wo++ro) id
 wr: ∀id∈f.wr,Tch ρ wo id
theorem dead_le (h:HLe H H') {id:Nat}:dead H id→dead H' id:=fun ⟨sz,es,q⟩=>⟨sz,es,h _ _ _ q⟩
def disj (xs ys:List Nat):Bool:=xs.all fun x => !ys.contains x
theorem meets_no {xs ys:List Nat} (h: ∀id∈xs,id ∉ ys):meets xs ys=false:=by
 unfold meets
 rw [List.any_eq_false]
 intro x hx
 simpa using h x hx
end
end Go.Pi
