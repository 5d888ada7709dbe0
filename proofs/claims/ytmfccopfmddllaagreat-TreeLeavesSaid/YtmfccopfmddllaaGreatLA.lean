import Derived.Test.YtmfccopfmddllaaGreatKU
set_option linter.all false
namespace Go.Pi
set_option linter.unusedVariables false
section
variable {S:Nat→Type} [Sg:Sig S] {ρ ρ':Rho} {H H':zf} {fr:Fr} {b N:Nat} {t:TS S} {s g:St} {α:Type} {pr:yn}
def Vr {α:Type}:Nat→List α→List (Nat×α)
 | _,[]=> []
 | i,v::vs=>(i,v)::Vr (i+1) vs
theorem YW {α:Type}: ∀ {vs:List α} {i j:Nat} {v:α},look (Vr i vs) j=some v→ ∃k,j=i+k∧vs[k]? = some v
 | [],_,_,_,h=>nomatch h
 | w::vs,i,j,v,h=>by
  simp only [Vr,look] at h;split at h
  ·rename_i e
   cases h;exact ⟨0,(Nat.eq_of_beq_eq_true e).symm,rfl⟩
  ·obtain ⟨k,h1,h2⟩:=YW h
   exact ⟨k+1,by omega,by simpa using h2⟩
def zcy (t:TS S):List PX→Option (List (Val S))
 | []=>some []
 | x::xs=>match evK t x with
  | some v=>(match zcy t xs with
   | some vs=>some (v::vs)
   | none=>none)
  | none=>none
theorem za6 (h:zc fr b N ρ t g): ∀ {xs:List PX} {vs:List (Val S)},zcy t xs=some vs→zg (VS ρ g.hp) vs (xs.map (PX.ev g.ts))
 | [],_,e=>by cases e;trivial
 | x::xs,vs,e=>by
  simp only [zcy] at e;split at e
  ·rename_i v hv;split at e
   ·rename_i us hu
    cases e;exact ⟨h.ev hv,za6 h hu⟩
   ·cases e
  ·cases e
def tpN (n:Nat):Bool := !Nat.beq n 1
def HOk (pr:yn)(f:Nat)(sI sO:zo)(F:Flds S sI.cs→Option (Flds S sO.cs)):Prop:=
 ∀p r,F p=some r→ ∀(fr:Fr) (ρ:Rho) (args:List D) (H:zf),args.length=sI.sl.length→zc fr 0 args.length ρ (qg sI p) ⟨args,H⟩→ZL pr f args H fun d H'=>
  jP d=tpN sO.sl.length∧ ∃g' ρ',GhK ⟨qq d,H'⟩ g'∧zc fr 0 sO.sl.length ρ' (qg sO r) g'
structure ziY (S:Nat→Type) [Sg:Sig S] (pr:yn) where
 f:Nat
 sI:zo
 sO:zo
 F:Flds S sI.cs→Option (Flds S sO.cs)
 ok:HOk pr f sI sO F
structure HC where
 L:List (Nat×Option Nat)
 sh:zo
def ziJ {α:Type}:Option α→Bool
 | some _=>true
 | none=>false
def inL (L:List (Nat×Option Nat))(o:Nat):Bool:=ziJ (look L o)
def Qf:List (Nat×Option Nat)→Nat→Option Nat
 | [],_=>none
 | (a,some k)::L,j=>(match Nat.beq k j with
  | true=>some a
  | false=>Qf L j)
 | (_,none)::L,j=>Qf L j
def zah (L:List (Nat×Option Nat))(o:Nat):Option Nat:=match look L o with
 | some (some k)=>(match Qf L k with
  | some a=>(match Nat.beq a o with
   | true=>some k
   | false=>none)
  | none=>none)
 | _=>none
theorem zaz {L:List (Nat×Option Nat)}{o k:Nat}(h:zah L o=some k):Qf L k=some o∧inL L o=true:=by
 unfold zah at h;split at h
 ·rename_i k' hk;split at h
  ·rename_i a ha;split at h
   ·rename_i e
    cases h;obtain rfl:=Nat.eq_of_beq_eq_true e
    exact ⟨ha,by simp [inL,hk,ziJ]⟩
   ·cases h
  ·cases h
 ·cases h
def ze1 (L:List (Nat×Option Nat))(o:Nat):Obj S→Obj S
 | .box _ vs=> .box (zah L o) vs
 | ob=>ob
def V9 (L:List (Nat×Option Nat)):List (Nat×Obj S)→List (Nat×Obj S)
 | []=> []
 | (o,ob)::E=>(o,ze1 L o ob)::V9 L E
omit Sg in
theorem JE {L:List (Nat×Option Nat)}: ∀ {E:List (Nat×Obj S)} {o:Nat} {ob:Obj S},look (V9 L E) o=some ob→ ∃w,look E o=some w∧ob=ze1 L o w
 | [],_,_,h=>nomatch h
 | (k,w)::E,o,ob,h=>by
  simp only [V9,look] at h ⊢
  split at h
  ·rename_i e
   cases h;obtain rfl:=Nat.eq_of_beq_eq_true e
   exact ⟨w,rfl,rfl⟩
  ·exact JE h
def zok (L:List (Nat×Option Nat))(vs:List (Val S))(t:TS S):TS S:=
 TS.clear ⟨Vr 0 vs,V9 L t.hp,t.nx,[],t.gh⟩ (fun o _ => !inL L o)
def ZE (L:List (Nat×Option Nat))(ρ:Rho):Rho:=yc ρ (fun o _ => !inL L o)
theorem yV {L:List (Nat×Option Nat)}{o:Nat}{p:List Nat}{x:Option Nat}(h:ZE L ρ o p=some x):inL L o=true∧ρ o p=some x:=by
 obtain ⟨h1,h2⟩:=zO h
 exact ⟨by simpa using h1,h2⟩
def zem (L:List (Nat×Option Nat))(ρ:Rho)(k:Nat):Nat:=match Qf L k with
 | some a=>(match ρ a [] with
  | some (some id)=>id
  | _=>0)
 | none=>0
open Classical in
noncomputable def frA (L:List (Nat×Option Nat))(ρ:Rho)(H:zf):Fr:=
 ⟨fun id=>if ∃o p,ZE L ρ o p=some (some id) then none else if id<H.length then some (hat H id) else none,zem L ρ⟩
open Classical in
theorem zkj {L:List (Nat×Option Nat)}{o:Nat}{p:List Nat}{id:Nat}(h:ZE L ρ o p=some (some id)):(frA L ρ H) id=none:=by
 show (if _ then _ else _)=_
 rw [if_pos ⟨o,p,h⟩]
open Classical in
theorem UO {L:List (Nat×Option Nat)}{id:Nat}(h: ∀o p,ZE L ρ o p≠some (some id))(hl:id<H.length):(frA L ρ H) id=some (hat H id):=by
 show (if _ then _ else _)=_
 rw [if_neg (fun ⟨o,p,e⟩=>h o p e),if_pos hl]
open Classical in
theorem zgd {L:List (Nat×Option Nat)}{id:Nat}{k:Blk}(h:(frA L ρ H) id=some k):hat H id=k∧id<H.length:=by
 have h:(if _ then _ else _)=some k:=h
 split at h
 ·cases h
 ·split at h
  ·cases h;exact ⟨rfl,by assumption⟩
  ·cases h
open Classical in
theorem zge {L:List (Nat×Option Nat)}{id:Nat}(h:(frA L ρ H) id=none):(∃o p,ZE L ρ o p=some (some id))∨H.length≤id:=by
 have h:(if _ then _ else _)=none:=h
 split at h
 ·exact .inl (by assumption)
 ·split at h
  ·cases h
  ·right;omega
theorem zc.args (h:zc fr b N ρ t g)(L:List (Nat×Option Nat)){vs:List (Val S)}{ds:List D}(hv:zg (VS ρ g.hp) vs ds) :
  zc (frA L ρ g.hp) 0 ds.length (ZE L ρ) (Pi.zok L vs t) ⟨ds,g.hp⟩:=by
 refine ⟨rfl,fun i v hl=> ?_,fun o ob ho=> ?_,fun _ _ _ _ _ h1 h2=>h.inj _ _ _ _ _ (yV h1).2 (yV h2).2,fun o p id h1=>⟨zkj h1,(h.liv _ _ _ (yV h1).2).2⟩,fun o p ho=> ?_,fun id k hk=>zgd hk,List.nodup_nil,fun _ hr=>nomatch hr⟩
 ·obtain ⟨w,h1,rfl⟩:=jM hl
  obtain ⟨k,e,hk⟩:=YW h1
  rw [Nat.zero_add] at e;subst e;obtain ⟨d,h2,h3⟩:=hv.get hk
  show VS (ZE L ρ) g.hp _ (ds.getD i .undef)
  rw [List.getD_eq_getElem?_getD,h2];exact h3.clear
 ·obtain ⟨h1,w,h2,rfl⟩:=qV ho
  obtain ⟨w',h2',rfl⟩:=JE h2
  have h3:=h.hp _ _ h2'
  cases w' with
  | row n e l=>exact zw.ext (HLe.refl _) (fun p x hx=>by rw [ZE,y5 (P:=fun o _ => !inL L o) h1];exact hx) (fun p id _=>rfl) h3
  | box pn us=>
   obtain ⟨id,es,k1,k2,k3,k9⟩:=h3
   refine ⟨id,es,by rw [ZE,y5 (P:=fun o _ => !inL L o) h1];exact k1,by rw [k3.clear.2];exact k2,k3.clear.1,?_⟩
   cases hp:zah L o with
   | none=>exact trivial
   | some k=>
    show id=zem L ρ k
    simp only [zem,(zaz hp).1,k1]
 ·have:=h.nxt o p ho
  simp only [ZE,yc];split
  ·rfl
  ·exact this
def ZM:List (Nat×OSh)→Nat→Bool
 | [],_=>false
 | (a,_)::E,o=>match Nat.beq a o with
  | true=>true
  | false=>ZM E o
def Xv (L:List (Nat×Option Nat))(t t':TS S)(o:Nat):Bool:=match zah L o,look t.hp o,look t'.hp o with
 | some k,some (.box _ vs),some (.box (some k') vs')=>Nat.beq k k'&&Nat.beq (yr vs') (yr vs)
 | _,_,_=>false
def zpf:List Nat→Bool
 | []=>true
 | _::_=>false
def Xq (L:List (Nat×Option Nat))(ks:List (Nat×OSh))(t t':TS S):Nat→List Nat→Bool:=fun o p=>(inL L o || ZM ks o) && !(Xv L t t' o&&zpf p)
def ZQ (L:List (Nat×Option Nat))(ks:List (Nat×OSh)):Nat→Bool:=fun o=>inL L o || ZM ks o
def zio (L:List (Nat×Option Nat))(t t':TS S)(o:Nat):Obj S→Obj S
 | .box pn vs=> .box (match Xv L t t' o,look t.hp o with
  | true,some (.box pn0 _)=>pn0
  | _,_=>none) vs
 | ob=>ob
def zcx (L:List (Nat×Option Nat))(t t':TS S):List (Nat×Obj S)→List (Nat×Obj S)→List (Nat×Obj S)
 | [],K=>K
 | (o,ob)::E,K=>(o,zio L t t' o ob)::zcx L t t' E K
theorem X6 {L:List (Nat×Option Nat)}{t t':TS S}: ∀ {E K:List (Nat×Obj S)} {o:Nat} {ob:Obj S},look (zcx L t t' E K) o=some ob→(∃w,look E o=some w∧ob=zio L t t' o w)∨look K o=some ob
 | [],_,_,_,h=> .inr h
 | (k,w)::E,K,o,ob,h=>by
  simp only [zcx,look] at h ⊢
  split at h
  ·rename_i e
   cases h;obtain rfl:=Nat.eq_of_beq_eq_true e
   exact .inl ⟨w,rfl,rfl⟩
  ·exact X6 h
def ze9 (L:List (Nat×Option Nat))(ks:List (Nat×OSh))(t t':TS S):TS S:=
 { sl:=QZ (Xq L ks t t') t.sl,hp:=zcx L t t' t'.hp (Yo (Xq L ks t t') (ZQ L ks) t.hp),nx:=t'.nx,av:=t.av,gh:=t.gh || t'.gh }
def Xi (L:List (Nat×Option Nat))(ks:List (Nat×OSh))(ρ ρ3:Rho):Rho:=fun o p=>match ZM ks o with
 | true=>ρ3 o p
 | false=>(match inL L o with
  | true=>none
  | false=>ρ o p)
theorem zc.merge (h:zc fr b N ρ t g){L:List (Nat×Option Nat)}{ks:List (Nat×OSh)}{t':TS S}{ρ3:Rho}{g':St}{m:Nat}(k:zc (frA L ρ g.hp) 0 m ρ3 t' g')
  (hk: ∀o ob,look t'.hp o=some ob→ZM ks o=true) (h3: ∀o p x,ρ3 o p=some x→ZM ks o=true) (hx:t.nx≤t'.nx) :
  zc fr b N (Xi L ks ρ ρ3) (ze9 L ks t t') ⟨g.ts,g'.hp⟩∧ ∀(v:Val S) (d:D),VS ρ3 g'.hp v d→VS (Xi L ks ρ ρ3) g'.hp v d:=by
 have hc:=h.clear2 (P:=Xq L ks t t') (Q:=ZQ L ks) (fun o p q=>by
  simp only [ZQ] at q;simp only [Xq,q,Bool.false_and])
 have out: ∀ {o p id},ρ o p=some (some id)→inL L o=false→(∀o' p',ZE L ρ o' p'≠some (some id)):=fun {o p id} e1 e2 o' p' e3=>by
  obtain ⟨q1,q2⟩:=yV e3
  obtain ⟨rfl,_⟩:=h.inj _ _ _ _ _ e1 q2
  rw [e2] at q1
  cases q1
 have same: ∀ {id},(∀o' p',ZE L ρ o' p'≠some (some id))→id<g.hp.length→hat g'.hp id=hat g.hp id∧id<g'.hp.length:=fun {id} e1 e2=>k.frm _ _ (UO e1 e2)
 have key: ∀ {o p x},ρ3 o p=some x→Xi L ks ρ ρ3 o p=some x:=fun {o p x} e=>by
  simp only [Xi,h3 _ _ _ e];exact e
 have old: ∀ {o p},ZQ L ks o=false→Xi L ks ρ ρ3 o p=ρ o p:=fun {o p} e=>by
  simp only [ZQ,Bool.or_eq_false_iff] at e;simp only [Xi,e.1,e.2]
 have cs: ∀ {o p id},Xi L ks ρ ρ3 o p=some (some id)→(ZM ks o=true∧ρ3 o p=some (some id))∨(ZQ L ks o=false∧ρ o p=some (some id)∧inL L o=false):=fun {o p id} e=>by
  simp only [Xi] at e;split at e
  ·exact .inl ⟨by assumption,e⟩
  ·split at e
   ·cases e
   ·rename_i e1 _ e2;exact .inr ⟨by simp [ZQ,e1,e2],e,e2⟩
 have lt: ∀ {o p id},ρ o p=some (some id)→id<g.hp.length:=fun e=>by
  obtain ⟨_,_,_,q⟩:=h.liv _ _ _ e
  exact yB (by rw [q];intro z;cases z)
 have hle:HLe g.hp g'.hp:=fun id sz es e=>by
  have l1:id<g.hp.length:=yB (by rw [e];intro z;cases z)
  rw [(same (fun o' p' q=>by
   obtain ⟨_,_,_,q2⟩:=h.liv _ _ _ (yV q).2
   rw [e] at q2
   cases q2) l1).1]
  exact e
 have stay: ∀ {o},Xv L t t' o=true→ ∃id sz es es',ρ o []=some (some id)∧ρ3 o []=some (some id)∧hat g.hp id= .row sz [es] true∧hat g'.hp id= .row sz [es'] true∧ZM ks o=true:=fun {o} e=>by
  unfold Xv at e;split at e
  ·rename_i kk _ vs k' vs' e1 e2 e3;simp only [Bool.and_eq_true] at e;obtain rfl:=Nat.eq_of_beq_eq_true e.1
   have ew:=Nat.eq_of_beq_eq_true e.2
   obtain ⟨id,ds,a1,a2,a3,a4⟩:=h.hp _ _ e2
   obtain ⟨id',ds',b1,b2,b3,b4⟩:=k.hp _ _ e3
   have b4:id'=zem L ρ kk:=b4
   simp only [zem,(zaz e1).1,a1] at b4;subst b4;exact ⟨id',_,ds,ds',a1,b1,a2,by rw [b2,ew],hk _ _ e3⟩
  ·cases e
 have gone: ∀ {o p},Xq L ks t t' o p=false→ZQ L ks o=false∨(Xv L t t' o=true∧p= []):=fun {o p} e=>by
  cases q:ZQ L ks o with
  | false=>exact .inl rfl
  | true=>
   right
   have q:(inL L o || ZM ks o)=true:=q
   simp only [Xq,q,Bool.true_and,Bool.not_eq_false',Bool.and_eq_true] at e;refine ⟨e.1,?_⟩
   cases p with
   | nil=>rfl
   | cons _ _=>exact nomatch e.2
 have x:Ext (yc ρ (Xq L ks t t')) g.hp (Xi L ks ρ ρ3) g'.hp:=by
  refine ⟨hle,fun o p y hy=> ?_,fun o p id sz es hy hr=> ?_⟩
  ·obtain ⟨e1,e2⟩:=zO hy
   rcases gone e1 with q | ⟨q,rfl⟩
   ·rw [old q];exact e2
   ·obtain ⟨id,_,_,_,a1,a2,_,_,_⟩:=stay q
    rw [a1] at e2
    cases e2;exact key a2
  ·obtain ⟨e1,e2⟩:=zO hy
   rcases gone e1 with q | ⟨q,rfl⟩
   ·have q2:inL L o=false:=by
     simp only [ZQ,Bool.or_eq_false_iff] at q;exact q.1
    exact ⟨es,by rw [(same (out e2 q2) (lt e2)).1];exact hr,rfl⟩
   ·obtain ⟨id',sz',e,e',a1,a2,a3,a4,_⟩:=stay q
    rw [a1] at e2
    cases e2;rw [a3] at hr
    cases hr;exact ⟨[e'],a4,rfl⟩
 have x3:Ext ρ3 g'.hp (Xi L ks ρ ρ3) g'.hp:=⟨HLe.refl _,fun _ _ _ e=>key e,fun _ _ _ _ es _ e=>⟨es,e,rfl⟩⟩
 refine ⟨⟨h.len,fun i v hv=>(hc.sl i v hv).ext x,fun o ob ho=> ?_,fun o p o' p' id e1 e2=> ?_,fun o p id e=> ?_,fun o p ho=> ?_,fun id q hq=> ?_,h.avl.1,fun r hr=> ?_⟩,fun v d hv=>hv.ext x3⟩
 ·rcases X6 ho with ⟨w,e1,rfl⟩ | e1
  ·have e2:=k.hp _ _ e1
   cases w with
   | row n e l=>exact zw.ext (HLe.refl _) (fun p y hy=>key hy) (fun _ _ _=>rfl) e2
   | box pn vs=>
    obtain ⟨id,ds,a1,a2,a3,a4⟩:=e2
    refine ⟨id,ds,key a1,a2,a3.ext x3,?_⟩
    split
    ·rename_i pn0 _ q1 q2;obtain ⟨id',_,_,_,b1,b2,_,_,_⟩:=stay q1
     rw [a1] at b2
     cases b2;obtain ⟨id2,_,c1,_,_,c4⟩:=h.hp _ _ q2
     rw [b1] at c1
     cases c1;exact c4
    ·exact trivial
  ·obtain ⟨q1,w,q2,rfl⟩:=jh e1
   have e2:=hc.hp _ _ e1
   refine qn.ext x (fun p id hp=> ?_) e2
   have hp2:=(zO hp).2
   have q3:inL L o=false:=by
    simp only [ZQ,Bool.or_eq_false_iff] at q1;exact q1.1
   exact (same (out hp2 q3) (lt hp2)).1
 ·rcases cs e1 with ⟨a1,a2⟩ | ⟨a1,a2,a3⟩<;>rcases cs e2 with ⟨b1,b2⟩ | ⟨b1,b2,b3⟩
  ·exact k.inj _ _ _ _ _ a2 b2
  ·have:=(k.liv _ _ _ a2).1
   rw [UO (out b2 b3) (lt b2)] at this
   cases this
  ·have:=(k.liv _ _ _ b2).1
   rw [UO (out a2 a3) (lt a2)] at this
   cases this
  ·exact h.inj _ _ _ _ _ a2 b2
 ·rcases cs e with ⟨a1,a2⟩ | ⟨a1,a2,a3⟩
  ·obtain ⟨q1,q2⟩:=k.liv _ _ _ a2
   refine ⟨?_,q2⟩
   rcases zge q1 with ⟨o',p',z⟩ | z
   ·exact (h.liv _ _ _ (yV z).2).1
   ·cases z2:fr id with
    | none=>rfl
    | some y=>exact absurd (h.frm _ _ z2).2 (by omega)
  ·obtain ⟨q1,sz,es,q2⟩:=h.liv _ _ _ a2
   exact ⟨q1,sz,es,by rw [(same (out a2 a3) (lt a2)).1];exact q2⟩
 ·have ho:t'.nx≤o:=ho
  simp only [Xi];split
  ·exact k.nxt _ _ ho
  ·split
   ·rfl
   ·exact h.nxt _ _ (by omega)
 ·obtain ⟨q1,q2⟩:=h.frm _ _ hq
  have:=same (id:=id) (fun o' p' z=>by
   rw [(h.liv _ _ _ (yV z).2).1] at hq
   cases hq) q2
  exact ⟨by rw [this.1];exact q1,this.2⟩
 ·obtain ⟨q1,q2,q3⟩:=h.avl.2 r hr
  have:=same (id:=b+r) (fun o' p' z=>by
   obtain ⟨_,_,_,z2⟩:=h.liv _ _ _ (yV z).2
   rw [q1] at z2
   cases z2) q2
  exact ⟨by rw [this.1];exact q1,this.2,q3⟩
def zmf:Val S→Bool
 | .tup _=>true
 | _=>false
def zgH (t:TS S):Nat→Nat→Option (List (Val S))
 | _,0=>some []
 | i,n+1=>match look t.sl i with
  | some v=>(match zmf v,zgH t (i+1) n with
   | false,some vs=>some (v::vs)
   | _,_=>none)
  | none=>none
theorem zc4 {m:Nat}(h:zc fr b m ρ t g): ∀ {n i:Nat} {vs:List (Val S)},zgH t i n=some vs→i+n=m→zg (VSx ρ g.hp) vs (g.ts.drop i)
 | 0,i,vs,e,hm=>by
  cases e;rw [List.drop_of_length_le (by rw [h.len];omega)]
  trivial
 | n+1,i,vs,e,hm=>by
  simp only [zgH] at e;split at e
  ·rename_i v hv;split at e
   ·rename_i us ht hu
    cases e;have hi:i<g.ts.length:=by rw [h.len];omega
    rw [List.drop_eq_getElem_cons hi];refine ⟨?_,zc4 h hu (by omega)⟩
    have:=h.sl _ _ hv
    rw [List.getD_eq_getElem?_getD,List.getElem?_eq_getElem hi] at this;exact this.toVSx (fun _ e=>by subst e;cases ht)
   ·cases e
  ·cases e
def ziy (n:Nat)(vs:List (Val S)):Val S:=match tpN n with
 | true=> .tup vs
 | false=>vs.headD .undef
def zbT (e:ziY S pr)(C:HC)(N:Nat)(dst:Option Nat)(args:List PX)(t:TS S)(K:TS S→Option α):Option α:=match zcy t args with
 | some vs=>(match jK e.sI (zok C.L vs t) with
  | some p=>(e.F p).bind fun r=>(match jK C.sh (qg e.sO r) with
   | some q=>(match zgH ((qg C.sh q).clear fun o _ => !ZM C.sh.hp o) 0 C.sh.sl.length with
    | some us=>(match Nat.beq args.length e.sI.sl.length&&Nat.beq C.sh.sl.length e.sO.sl.length&&Nat.ble t.nx C.sh.nx&&yk N dst with
     | true=>K ((ze9 C.L C.sh.hp t ((qg C.sh q).clear fun o _ => !ZM C.sh.hp o)).putD dst (ziy C.sh.sl.length us))
     | false=>none)
    | none=>none)
   | none=>none)
  | none=>none)
 | none=>none
theorem VU (h:zc fr b N ρ t g){e:ziY S pr}{C:HC}{dst:Option Nat}{args:List PX}{res:Nat}{K:TS S→Option α}{r:α}(hr:zbT e C N dst args t K=some r) :
  ∃n g1,zD (runN pr n) b ⟨dst,.callH e.f args,none,[],res⟩ g=some g1∧ ∃t' g2 ρ2,K t'=some r∧GhK g1 g2∧zc fr b N ρ2 t' g2:=by
 unfold zbT at hr;split at hr
 ·rename_i vs hvs;split at hr
  ·rename_i p hp;simp only [Option.bind_eq_some_iff] at hr;obtain ⟨y,hy,hr⟩:=hr
   split at hr
   ·rename_i q hq;split at hr
    ·rename_i us hus;split at hr
     ·rename_i hc;simp only [Bool.and_eq_true] at hc;obtain ⟨⟨⟨c0,c1⟩,c2⟩,c3⟩:=hc
      have c1:=Nat.eq_of_beq_eq_true c1
      have c2:=Nat.le_of_ble_eq_true c2
      have ha:=h.args C.L (za6 h hvs)
      obtain ⟨ρ1,h1⟩:=ha.closeSh hp
      obtain ⟨n,d,H',r1,r2,g',ρ',r3,r4⟩:=e.ok p y hy _ _ _ _ (by rw [List.length_map];exact Nat.eq_of_beq_eq_true c0) h1
      obtain ⟨ρ2,h2⟩:=r4.closeSh hq
      have h3:=h2.clear (P:=fun o _ => !ZM C.sh.hp o) (fun _ _ q=>q)
      have hk: ∀o ob,look ((qg C.sh q).clear fun o _ => !ZM C.sh.hp o).hp o=some ob→ZM C.sh.hp o=true:=fun o ob ho=>by
       obtain ⟨q1,_⟩:=qV ho
       simpa using q1
      have hρ: ∀o p x,yc ρ2 (fun o _ => !ZM C.sh.hp o) o p=some x→ZM C.sh.hp o=true:=fun o p x ho=>by
       have:=(zO ho).1
       simpa using this
      obtain ⟨m1,m2⟩:=h.merge h3 hk hρ c2
      have hv:=zc4 h3 hus (by rw [Nat.zero_add];exact c1)
      rw [List.drop_zero] at hv;have hts:qq d=g'.ts:=r3.ts
      have hl:g'.ts.length=C.sh.sl.length:=by rw [c1];exact r4.len
      have hres:VS (yc ρ2 fun o _ => !ZM C.sh.hp o) g'.hp (ziy C.sh.sl.length us) d:=by
       unfold ziy
       cases htp:tpN C.sh.sl.length with
       | true=>
        rw [←c1,htp] at r2
        cases d<;>first | exact ⟨_,rfl,by rw [←hts] at hv;exact hv⟩ | cases r2
       | false=>
        rw [←c1,htp] at r2;have hn:C.sh.sl.length=1:=by
         simp only [tpN,Bool.not_eq_false'] at htp;exact Nat.eq_of_beq_eq_true htp
        have hcd:qq d= [d]:=by cases d<;>first | rfl | cases r2
        rw [←hts,hcd] at hv;match us,hv with
        | [u],hv=>exact hv.1.toVS
      refine ⟨n,⟨yh g.ts dst d,H'⟩,?_,_,⟨yh g.ts dst d,g'.hp⟩,_,hr,⟨rfl,r3.hp⟩,m1.putD c3 (m2 _ _ hres)⟩
      simp only [zD,zN,zu,if_true,r1,Option.map_some]
     ·cases hr
    ·cases hr
   ·cases hr
  ·cases hr
 ·cases hr
end
end Go.Pi
