import Derived.Test.YtmfccopfmddllaaGreatKZ
import Derived.Test.YtmfccopfmddllaaGreatPiW
set_option linter.all false
namespace Go.Pi
set_option linter.unusedVariables false
inductive An where
 | l (h:zo) (xs:List (Ex×zo))
 | h (C:HC)
 | c (n:Nat) (xs:List (Ex×zo))
 | e (n:Nat) (cd:Code)
 | z (n i:Nat)
 | y (n i j:Nat)
 | n (n:Nat) (e:Code)
 | u (n i:Nat)
 | w (n i j:Nat)
 | b (n i j:Nat)
 | p (n:Nat) (os:List AO)
 | g (n:Nat) (os:List AO)
def YO {α:Type}(n:Nat):List An→(List An→List AO×α)→List AO×α
 | .z m i::as,K=>(match Nat.beq m n with
  | true=>(match YO n as K with | (x,r)=>(.fz i::x,r))
  | false=>K (.z m i::as))
 | .y m i j::as,K=>(match Nat.beq m n with
  | true=>(match YO n as K with | (x,r)=>(.fzA i j::x,r))
  | false=>K (.y m i j::as))
 | .b m i j::as,K=>(match Nat.beq m n with
  | true=>(match YO n as K with | (x,r)=>(.fzB i j::x,r))
  | false=>K (.b m i j::as))
 | .w m i j::as,K=>(match Nat.beq m n with
  | true=>(match YO n as K with | (x,r)=>(.fzN i j::x,r))
  | false=>K (.w m i j::as))
 | .u m i::as,K=>(match Nat.beq m n with
  | true=>(match YO n as K with | (x,r)=>(.un i::x,r))
  | false=>K (.u m i::as))
 | as,K=>K as
def zel {α:Type}(n:Nat):List An→(Code→List An→α)→α
 | .e m cd::as,K=>(match Nat.beq m n with
  | true=>K cd as
  | false=>K .bool (.e m cd::as))
 | as,K=>K .bool as
def zbr {α:Type}(o:PO)(n:Nat)(as:List An)(K:AO→List An→α):α:=match o with
 | ⟨dst,.callH f args,some (gt,gb),_,res⟩=>(match as with
  | .h C::as=>K (.hg dst f args gt gb C res) as
  | as=>K (.g dst (.callH f args) gt gb res .bool) as)
 | ⟨dst,op,some (gt,gb),_,res⟩=>zel n as fun cd as=>K (.g dst op gt gb res cd) as
 | ⟨dst,.callH f args,none,_,res⟩=>(match as with
  | .h C::as=>K (.h dst f args C res) as
  | as=>K (.o dst (.callH f args) res .bool) as)
 | ⟨dst,op,none,_,res⟩=>zel n as fun cd as=>K (.o dst op res cd) as
def isN (n:Nat):List An→Option (Code×List An)
 | .n m e::as=>(match Nat.beq m n with
  | true=>some (e,as)
  | false=>none)
 | _=>none
def mk3 (e:Code):PO→PO→PO→Option AO
 | ⟨some a,.append sz b x y,none,_,r1⟩,⟨some d,.indexAddr 1 u i,none,_,r2⟩,⟨none,.store 1 (.t d') (.t a'),none,_,r3⟩=>(match Nat.beq d d'&&Nat.beq a a' with
  | true=>some (.n3 a e sz b x y r1 d u i r2 r3)
  | false=>none)
 | _,_,_=>none
def ZO:List PO→Nat→List An→List AO×(Nat×List An)
 | [],n,as=>YO n as fun as=>([],n+1,as)
 | [o],n,as=>YO n as fun as=>zbr o n as fun a as=>(match ZO [] (n+1) as with | (x,r)=>(a::x,r))
 | [o,o2],n,as=>YO n as fun as=>zbr o n as fun a as=>(match ZO [o2] (n+1) as with | (x,r)=>(a::x,r))
 | o::o2::o3::os,n,as=>YO n as fun as=>(match isN n as with
  | some (e,as1)=>(match mk3 e o o2 o3 with
   | some a=>(match ZO os (n+3) as1 with | (x,r)=>(a::x,r))
   | none=>zbr o n as fun a as=>(match ZO (o2::o3::os) (n+1) as with | (x,r)=>(a::x,r)))
  | none=>zbr o n as fun a as=>(match ZO (o2::o3::os) (n+1) as with | (x,r)=>(a::x,r)))
def zev:List PO→Nat→List An→List AOD×(Nat×List An)
 | [],n,as=>([],n+1,as)
 | o::os,n,as=>zel n as fun cd as=>(match zev os (n+1) as with | (x,r)=>(⟨o.dst,o.op,o.guard,o.after,o.res,cd⟩::x,r))
inductive Wr where
 | id
 | gh (os:List AO)
 | pg (os:List AO)
def Wr.on:Wr→AC→AC
 | .id,a=>a
 | .gh os,a=> .gh os a
 | .pg os,a=> .pg os a
def zgC {α:Type}(n:Nat):List An→(Wr→List An→α)→α
 | .g m os::as,K=>(match Nat.beq m n with
  | true=>K (.gh os) as
  | false=>K .id (.g m os::as))
 | .p m os::as,K=>(match Nat.beq m n with
  | true=>K (.pg os) as
  | false=>K .id (.p m os::as))
 | as,K=>K .id as
def U9 {α:Type}(n:Nat):List An→(Option (List (Ex×zo))×Wr→List An→α)→α
 | .c m xs::as,K=>(match Nat.beq m n with
  | true=>zgC n as fun g as=>K (some xs,g) as
  | false=>K (none,.id) (.c m xs::as))
 | as,K=>zgC n as fun g as=>K (none,g) as
def j0:Option (List (Ex×zo))×Wr→AC→AC
 | (none,g),a=>g.on a
 | (some xs,g),a=> .cut xs (g.on a)
def Y1:PC→Nat→List An→AC×(Nat×List An)
 | .skip,n,as=>(.skip,n,as)
 | .ret,n,as=>(.ret,n,as)
 | .exit j,n,as=>(.exit j,n,as)
 | .region false k ops,n,as=>U9 n as fun w as=>(match ZO ops (n+1) as with | (x,r)=>(j0 w (.reg k x),r))
 | .region true k ops,n,as=>U9 n as fun w as=>(match zev ops (n+1) as with | (x,r)=>(j0 w (.regd k x),r))
 | .seq a b,n,as=>U9 n as fun w as=>(match Y1 a (n+1) as with
  | (x,n,as)=>(match Y1 b n as with | (y,r)=>(j0 w (.seq x y),r)))
 | .cond c a b,n,as=>U9 n as fun w as=>(match Y1 a (n+1) as with
  | (x,n,as)=>(match Y1 b n as with | (y,r)=>(j0 w (.cond c x y),r)))
 | .block j a,n,as=>U9 n as fun w as=>(match Y1 a (n+1) as with | (x,r)=>(j0 w (.block j x),r))
 | .loop a,n,as=>U9 n as fun w as=>(match as with
  | .l h xs::as=>(match Y1 a (n+1) as with | (x,r)=>(j0 w (.loop h xs x),r))
  | as=>(match Y1 a (n+1) as with | (x,r)=>(j0 w (.loop ⟨[],[],0,false⟩ [] x),r)))
def zgK (p:PF)(as:List An):AC:=(Y1 p.body 0 as).1
section
variable {α:Type} {n:Nat}
theorem je {X:List PO}: ∀ {as:List An} {K:List An→List AO×α},(∀l,AO.er (K l).1=X)→AO.er (YO n as K).1=X
 | [],K,h=>h _
 | .l _ _::_,K,h=>h _
 | .h _::_,K,h=>h _
 | .c _ _::_,K,h=>h _
 | .e _ _::_,K,h=>h _
 | .z m i::as,K,h=>by
  unfold YO;split
  ·exact je (as:=as) h
  ·exact h _
 | .y m i j::as,K,h=>by
  unfold YO;split
  ·exact je (as:=as) h
  ·exact h _
 | .n _ _::_,K,h=>h _
 | .p _ _::_,K,h=>h _
 | .b m i j::as,K,h=>by
  unfold YO;split
  ·exact je (as:=as) h
  ·exact h _
 | .w m i j::as,K,h=>by
  unfold YO;split
  ·exact je (as:=as) h
  ·exact h _
 | .g _ _::_,K,h=>h _
 | .u m i::as,K,h=>by
  unfold YO;split
  ·exact je (as:=as) h
  ·exact h _
theorem zbD {P:α→Prop}: ∀ {as:List An} {K:Code→List An→α},(∀c l,P (K c l))→P (zel n as K):=by
 intro as K h;unfold zel;split
 ·split
  ·exact h _ _
  ·exact h _ _
 ·exact h _ _
theorem ze3 {P:α→Prop}{as:List An}{K:Wr→List An→α}(h: ∀c l,P (K c l)):P (zgC n as K):=by
 unfold zgC;split
 ·split
  ·exact h _ _
  ·exact h _ _
 ·split
  ·exact h _ _
  ·exact h _ _
 ·exact h _ _
theorem QU {P:α→Prop}{as:List An}{K:Option (List (Ex×zo))×Wr→List An→α}(h: ∀c l,P (K c l)):P (U9 n as K):=by
 unfold U9;split
 ·split
  ·exact ze3 fun _ _=>h _ _
  ·exact h _ _
 ·exact ze3 fun _ _=>h _ _
theorem ju {w:Option (List (Ex×zo))×Wr}{a:AC}:(j0 w a).er=a.er:=by
 rcases w with ⟨_ | _,_ | _ | _⟩<;>rfl
theorem zbU {o:PO}{as:List An}{K:AO→List An→α}{P:α→Prop}(h: ∀a l,AO.er [a]= [ZD o]→P (K a l)):P (zbr o n as K):=by
 unfold zbr;split
 ·split
  ·exact h _ _ rfl
  ·exact h _ _ rfl
 ·exact zbD fun c l=>h _ _ rfl
 ·split
  ·exact h _ _ rfl
  ·exact h _ _ rfl
 ·exact zbD fun c l=>h _ _ rfl
theorem AO.er_cons {a:AO}{x:List AO}{o:PO}(h:AO.er [a]= [o]):AO.er (a::x)=o::AO.er x:=by
 cases a<;>simp only [AO.er] at h ⊢ <;> first | (cases h;rfl) | (cases h;done)
theorem zjH {e:Code}{o1 o2 o3:PO}{a:AO}{x:List AO}(h:mk3 e o1 o2 o3=some a):AO.er (a::x)=ZD o1::ZD o2::ZD o3::AO.er x:=by
 unfold mk3 at h;split at h
 ·split at h
  ·rename_i hc;simp only [Bool.and_eq_true] at hc
   cases h;obtain rfl:=Nat.eq_of_beq_eq_true hc.1
   obtain rfl:=Nat.eq_of_beq_eq_true hc.2
   rfl
  ·cases h
 ·cases h
theorem Qi: ∀ {os:List PO} {n:Nat} {as:List An},AO.er (ZO os n as).1=os.map ZD
 | [],n,as=>by
  unfold ZO;exact je fun l=>rfl
 | [o],n,as=>by
  unfold ZO;refine je fun l=>zbU (P:=fun r:List AO×(Nat×List An)=>AO.er r.1= [o].map ZD) fun a l h=> ?_
  show AO.er (a::(ZO [] (n+1) l).1)=_
  rw [AO.er_cons h,Qi];rfl
 | [o,o2],n,as=>by
  unfold ZO;refine je fun l=>zbU (P:=fun r:List AO×(Nat×List An)=>AO.er r.1= [o,o2].map ZD) fun a l h=> ?_
  show AO.er (a::(ZO [o2] (n+1) l).1)=_
  rw [AO.er_cons h,Qi];rfl
 | o::o2::o3::os,n,as=>by
  have dflt: ∀l,AO.er (zbr o n l fun a as=>(match ZO (o2::o3::os) (n+1) as with | (x,r)=>(a::x,r))).1=(o::o2::o3::os).map ZD:=fun l=>zbU (P:=fun r:List AO×(Nat×List An)=>AO.er r.1=(o::o2::o3::os).map ZD) fun a l h=>by
   show AO.er (a::(ZO (o2::o3::os) (n+1) l).1)=_
   rw [AO.er_cons h,Qi];rfl
  unfold ZO;refine je fun l=> ?_
  split
  ·split
   ·rename_i hm;show AO.er (_::(ZO _ _ _).1)=_
    rw [zjH hm,Qi];rfl
   ·exact dflt l
  ·exact dflt l
theorem zc8: ∀ {os:List PO} {n:Nat} {as:List An},(zev os n as).1.map AOD.er=os
 | [],n,as=>rfl
 | o::os,n,as=>zbD (P:=fun r:List AOD×(Nat×List An)=>r.1.map AOD.er=o::os) fun c l=>by
  show AOD.er _::(zev os (n+1) l).1.map AOD.er=_
  rw [zc8];rfl
theorem Yp: ∀ {c:PC} {n:Nat} {as:List An},(Y1 c n as).1.er=yJ c
 | .skip,n,as=>rfl
 | .ret,n,as=>rfl
 | .exit j,n,as=>rfl
 | .region false k ops,n,as=>QU (P:=fun r:AC×(Nat×List An)=>r.1.er=yJ (.region false k ops)) fun w l=>by
  show (j0 w (.reg k (ZO ops (n+1) l).1)).er=_
  rw [ju];simp only [AC.er,Qi,yJ]
 | .region true k ops,n,as=>QU (P:=fun r:AC×(Nat×List An)=>r.1.er=yJ (.region true k ops)) fun w l=>by
  show (j0 w (.regd k (zev ops (n+1) l).1)).er=_
  rw [ju];simp only [AC.er,zc8,yJ]
 | .seq a b,n,as=>QU (P:=fun r:AC×(Nat×List An)=>r.1.er=yJ (.seq a b)) fun w l=>by
  show (j0 w (.seq (Y1 a (n+1) l).1 (Y1 b _ _).1)).er=_
  rw [ju];simp only [AC.er,Yp,yJ]
 | .cond c a b,n,as=>QU (P:=fun r:AC×(Nat×List An)=>r.1.er=yJ (.cond c a b)) fun w l=>by
  show (j0 w (.cond c (Y1 a (n+1) l).1 (Y1 b _ _).1)).er=_
  rw [ju];simp only [AC.er,Yp,yJ]
 | .block j a,n,as=>QU (P:=fun r:AC×(Nat×List An)=>r.1.er=yJ (.block j a)) fun w l=>by
  show (j0 w (.block j (Y1 a (n+1) l).1)).er=_
  rw [ju];simp only [AC.er,Yp,yJ]
 | .loop a,n,as=>QU (P:=fun r:AC×(Nat×List An)=>r.1.er=yJ (.loop a)) fun w l=>by
  dsimp only
  split
  ·rw [ju];simp only [AC.er,Yp,yJ]
  ·rw [ju];simp only [AC.er,Yp,yJ]
end
theorem UV {p:PF}{as:List An}(h:p.body=yJ p.body):p.body=(zgK p as).er:=h.trans Yp.symm
theorem j7: ∀ {c:PC},yJ (yJ c)=yJ c
 | .skip=>rfl
 | .ret=>rfl
 | .exit _=>rfl
 | .region false k ops=>by simp only [yJ,List.map_map];rfl
 | .region true k ops=>rfl
 | .seq a b=>by simp only [yJ,j7]
 | .cond c a b=>by simp only [yJ,j7]
 | .block j a=>by simp only [yJ,j7]
 | .loop a=>by simp only [yJ,j7]
section
variable {S:Nat→Type} [Sg:Sig S] {ρ ρ':Rho} {H H':zf} {fr:Fr} {b N:Nat} {t:TS S} {s g:St} {α:Type} {pr:yn}
theorem zc.pad {m:Nat}{args:List D}(h:zc fr b m ρ t ⟨args,H⟩)(k:Nat):zc fr b (args.length+k) ρ t ⟨args++List.replicate k .undef,H⟩:=by
 refine ⟨by simp,fun i v hv=> ?_,h.hp,h.inj,h.liv,h.nxt,h.frm,h.avl⟩
 have:=h.sl i v hv
 have e:(args++List.replicate k D.undef).getD i .undef=args.getD i .undef:=by
  rw [List.getD_eq_getElem?_getD,List.getD_eq_getElem?_getD];rcases Nat.lt_or_ge i args.length with q | q
  ·rw [List.getElem?_append_left q]
  ·rw [List.getElem?_append_right q,List.getElem?_eq_none q];rw [List.getElem?_replicate];split<;>rfl
 show VS ρ H v ((args++List.replicate k D.undef).getD i .undef)
 rw [e];exact this
def okV:Val S→Bool
 | .undef=>false
 | .tup _=>false
 | .agg _=>false
 | .one _ c _ => !isAgg c&&Nat.beq (W (S:=S) c) 1
 | _=>true
theorem zjx {v:Val S}{ds:List D}(hv:okV v=true)(h:VC ρ H v ds): ∃d,ds= [d]∧VS ρ H v d∧jP d=false:=by
 cases v with
 | undef=>cases hv
 | tup _=>cases hv
 | agg _=>cases hv
 | one n c x=>
  simp only [okV,Bool.and_eq_true,Bool.not_eq_true'] at hv;have hl:ds.length=1:=by
   have h':zg (Cl H n) (en c x) ds:=h
   have:=Nat.eq_of_beq_eq_true hv.2
   rw [←h'.len,yT];exact this
  match ds,hl,h with
  | [d],_,h=>
   refine ⟨d,rfl,by simp only [VS,VSx,hv.1];exact h,?_⟩
   have h:zg (Cl H n) (en c x) [d]:=h
   match hq:en c x,h with
   | [a],h=>
    have:=Uv (qL c x a (by rw [hq];simp)) h.1
    cases d<;>first | rfl | cases this
 | fp n c x j=>
  obtain ⟨d,rfl,h⟩:=h
  refine ⟨d,rfl,h,?_⟩
  obtain ⟨r,h⟩:=h
  have:=Un h
  cases d<;>first | rfl | cases this
 | whole o p=>obtain ⟨d,rfl,h⟩:=h;refine ⟨d,rfl,h,?_⟩;rcases h with ⟨_,_,_,_,_,rfl⟩ | ⟨_,rfl⟩<;>rfl
 | win o p off len=>obtain ⟨d,rfl,h⟩:=h;refine ⟨d,rfl,h,?_⟩;rcases h with ⟨_,_,_,_,_,_,rfl⟩ | ⟨_,_,_,rfl⟩<;>rfl
 | ptr o p i j=>obtain ⟨d,rfl,h⟩:=h;refine ⟨d,rfl,h,?_⟩;obtain ⟨_,_,_,_,_,_,rfl⟩:=h;rfl
 | pa o j z len=>obtain ⟨d,rfl,h⟩:=h;refine ⟨d,rfl,h,?_⟩;obtain ⟨_,_,_,_,_,_,_,rfl⟩:=h;rfl
 | _=>obtain ⟨d,rfl,h⟩:=h;refine ⟨d,rfl,h,?_⟩;cases h;rfl
def slR (t:TS S)(r:PR):Option (Val S):=match VY t r with
 | some (true,vs)=>some (.agg vs)
 | some (false,[v])=>(match okV v with
  | true=>some v
  | false=>none)
 | _=>none
theorem zjn (h:zc fr b N ρ t g){r:PR}{v:Val S}(hr:slR t r=some v): ∃d,YC g r=some d∧VS ρ g.hp v d∧jP d=false:=by
 unfold slR at hr;split at hr
 ·rename_i vs q
  cases hr;obtain ⟨d,ds,k1,k2,k3,_⟩:=jH h q
  obtain rfl:=k3 rfl
  exact ⟨_,k1,⟨ds,rfl,k2⟩,rfl⟩
 ·rename_i w q;split at hr
  ·rename_i hw
   cases hr;obtain ⟨d,ds,k1,k2,_,k4⟩:=jH h q
   obtain rfl:=k4 rfl
   obtain ⟨a,b',e,q1,q2⟩:=k2
   have q2:b'= []:=q2
   subst q2;rw [List.append_nil] at e;subst e;obtain ⟨d',e,k5,k6⟩:=zjx hw q1
   cases e;exact ⟨d,k1,k5,k6⟩
  ·cases hr
 ·cases hr
def zgy (t:TS S):List PR→Option (List (Val S))
 | []=>some []
 | r::rs=>match slR t r with
  | some v=>(match zgy t rs with
   | some vs=>some (v::vs)
   | none=>none)
  | none=>none
theorem zcH (h:zc fr b N ρ t g): ∀ {rs:List PR} {vs:List (Val S)},zgy t rs=some vs→ ∃ds,YB g rs=some ds∧zg (VS ρ g.hp) vs ds∧(∀d∈ds,jP d=false)∧ds.length=rs.length
 | [],_,e=>by cases e;exact ⟨[],rfl,trivial,by simp,rfl⟩
 | r::rs,vs,e=>by
  simp only [zgy] at e;split at e
  ·rename_i v hv;split at e
   ·rename_i us hu
    cases e;obtain ⟨d,k1,k2,k3⟩:=zjn h hv
    obtain ⟨ds,k4,k5,k6,k7⟩:=zcH h hu
    refine ⟨d::ds,by simp only [YB,k1,k4,Option.bind_some,Option.map_some],⟨k2,k5⟩,fun x hx=> ?_,by simp [k7]⟩
    rcases List.mem_cons.mp hx with rfl | hx
    ·exact k3
    ·exact k6 x hx
   ·cases e
  ·cases e
def ziR (sO:zo)(rs:List PR)(ex:Ex)(t:TS S):Option (Flds S sO.cs):=match ex with
 | .exit _=>none
 | _=>(match zgy t rs with
  | some vs=>jK sO { t with sl:=Vr 0 vs,av:= [] }
  | none=>none)
def zim (Γ:List (zQ S pr))(N k:Nat)(c:AC)(sI sO:zo)(rs:List PR)(p:Flds S sI.cs):Option (Flds S sO.cs):=run Γ N k c (qg sI p) (ziR sO rs)
theorem HOk.of {f:Nat}{pf:PF}{Γ:List (zQ S pr)}{k:Nat}{c:AC}{sI sO:zo}(hf:pr f=some pf)(ho:pf.orc=none)(hb:pf.body=c.er)(hN:Nat.ble sI.sl.length pf.ntmps=true)(hO:Nat.beq sO.sl.length pf.results.length=true) :
  HOk pr f sI sO (zim Γ pf.ntmps k c sI sO pf.results):=by
 intro p r hr fr ρ args H hl h;refine ZL.body hf ho ?_
 have hN:=Nat.le_of_ble_eq_true hN
 have hO:=Nat.eq_of_beq_eq_true hO
 rw [hb];have h0:=h.pad (pf.ntmps-args.length)
 rw [show args.length+(pf.ntmps-args.length)=pf.ntmps by omega] at h0;refine (qY c hr h0).mono ?_
 rintro ex s ⟨t',k1,g,ρ1,k2,k3⟩
 have key:ziR sO pf.results .normal t'=some r→ ∃d,jQ s pf.results=some d∧jP d=tpN sO.sl.length∧ ∃g' ρ',GhK ⟨qq d,s.hp⟩ g'∧zc fr 0 sO.sl.length ρ' (qg sO r) g':=fun q=>by
  simp only [ziR] at q;split at q
  ·rename_i vs hvs;obtain ⟨ds,a1,a2,a3,a4⟩:=zcH k3 hvs
   have a1':=Qa k2 a1
   have h4:zc fr 0 ds.length ρ1 { t' with sl:=Vr 0 vs,av:= [] } ⟨ds,g.hp⟩:=by
    refine ⟨rfl,fun i v hv=> ?_,k3.hp,k3.inj,k3.liv,k3.nxt,k3.frm,List.nodup_nil,fun _ hr=>nomatch hr⟩
    obtain ⟨j,e,hj⟩:=YW hv
    rw [Nat.zero_add] at e;subst e;obtain ⟨d,h2,h3⟩:=a2.get hj
    show VS ρ1 g.hp v (ds.getD i .undef)
    rw [List.getD_eq_getElem?_getD,h2];exact h3
   obtain ⟨ρ',h5⟩:=h4.closeSh q
   rw [a4,←hO] at h5;have fin: ∀d,qq d=ds→jP d=tpN sO.sl.length→jQ s pf.results=some d→ ∃d,jQ s pf.results=some d∧jP d=tpN sO.sl.length∧ ∃g' ρ',GhK ⟨qq d,s.hp⟩ g'∧zc fr 0 sO.sl.length ρ' (qg sO r) g':=
    fun d q1 q2 q3=>⟨d,q3,q2,⟨ds,g.hp⟩,ρ',⟨q1,k2.hp⟩,h5⟩
   have hn:sO.sl.length=ds.length:=by rw [hO,a4]
   match ds,a1',a3,hn,fin with
   | [],a1',a3,hn,fin=>exact fin (.tup []) rfl (by rw [hn];rfl) (by simp only [jQ,a1',Option.map_some])
   | [d],a1',a3,hn,fin=>
    have hnt:=a3 d (by simp)
    exact fin d (by cases d<;>first | rfl | cases hnt) (by rw [hn];exact hnt) (by simp only [jQ,a1',Option.map_some])
   | d::d2::ds,a1',a3,hn,fin=>exact fin (.tup (d::d2::ds)) rfl (by rw [hn];rfl) (by simp only [jQ,a1',Option.map_some])
  ·cases q
 cases ex with
 | exit i=>cases k1
 | normal=>exact ⟨fun _ e=>(by cases e),key k1⟩
 | ret=>exact ⟨fun _ e=>(by cases e),key k1⟩
end
def yv (nq:Nat→Bool)(P0:yn):yn:=fun f=>(P0 f).map fun p=>Jn (jc nq p)
def PF0:PF:=⟨0,[],.skip,none⟩
def qR (P:yn)(f:Nat):PF:=(P f).getD PF0
def zen (P:yn)(f n:Nat):Bool:=match P f with
 | some pf=>(match pf.orc with
  | none=>Nat.ble n pf.ntmps
  | some _=>false)
 | none=>false
def zkJ (P:yn)(f n:Nat):Bool:=match P f with
 | some pf=>Nat.beq n pf.results.length
 | none=>false
section
variable {S:Nat→Type} [Sg:Sig S] {pr:yn} {f:Nat}
abbrev enP {ps:List PK}{rs:List RK}{F:Flds S (pcs ps)→Option (Flds S (rcs rs))}(h:FOk pr f ps rs F):zQ S pr:= .plain ⟨f,_,_,_,h⟩
abbrev enL {c:Code}{ps:List PK}{rs:List RK}{F:T S c×Flds S (pcs ps)→Option (T S c×Flds S (rcs rs))}(h:LOk pr f c ps rs F):zQ S pr:= .lent ⟨f,_,_,_,_,h⟩
abbrev enH {sI sO:zo}{F:Flds S sI.cs→Option (Flds S sO.cs)}(h:HOk pr f sI sO F):zQ S pr:= .heap ⟨f,_,_,_,h⟩
end
section
variable {S:Nat→Type} [Sg:Sig S] {nq:Nat→Bool} {P0:yn} {f k:Nat}
theorem UL {n:Nat}(h:zen (yv nq P0) f n=true):yv nq P0 f=some (qR (yv nq P0) f)∧(qR (yv nq P0) f).orc=none∧Nat.ble n (qR (yv nq P0) f).ntmps=true∧(qR (yv nq P0) f).body=yJ (qR (yv nq P0) f).body:=by
 unfold zen at h;split at h
 ·rename_i pf hf;have e:qR (yv nq P0) f=pf:=by unfold qR;rw [hf];rfl
  rw [e];split at h
  ·rename_i ho;refine ⟨hf,ho,h,?_⟩
   unfold yv at hf;obtain ⟨p,_,h2⟩:=Option.map_eq_some_iff.1 hf
   rw [←h2];exact j7.symm
  ·cases h
 ·cases h
theorem FOk.mk {ps:List PK}{ks:List RK}{F':Flds S (pcs ps)→Option (Flds S (rcs ks))}(as:List An)(Γ:List (zQ S (yv nq P0)))(h:zen (yv nq P0) f ps.length=true)
  (he: ∀p,zin Γ (qR (yv nq P0) f).ntmps k (zgK (qR (yv nq P0) f) as) ps ks (qR (yv nq P0) f).results p=F' p):FOk (yv nq P0) f ps ks F':=by
 obtain ⟨h1,h2,h3,h4⟩:=UL h
 exact funext he▸FOk.of h1 h2 (UV h4) h3
theorem LOk.mk {c:Code}{ps:List PK}{ks:List RK}{F':T S c×Flds S (pcs ps)→Option (T S c×Flds S (rcs ks))}(as:List An)(Γ:List (zQ S (yv nq P0)))(h:zen (yv nq P0) f (ps.length+1)=true)(hW:Nat.blt 0 (W (S:=S) c)=true)
  (he: ∀p,zil Γ (qR (yv nq P0) f).ntmps k (zgK (qR (yv nq P0) f) as) c ps ks (qR (yv nq P0) f).results p=F' p):LOk (yv nq P0) f c ps ks F':=by
 obtain ⟨h1,h2,h3,h4⟩:=UL h
 exact funext he▸LOk.of h1 h2 (UV h4) h3 hW
theorem HOk.mk {sI sO:zo}{F':Flds S sI.cs→Option (Flds S sO.cs)}(as:List An)(Γ:List (zQ S (yv nq P0)))(h:zen (yv nq P0) f sI.sl.length=true)(hO:zkJ (yv nq P0) f sO.sl.length=true)
  (he: ∀p,zim Γ (qR (yv nq P0) f).ntmps k (zgK (qR (yv nq P0) f) as) sI sO (qR (yv nq P0) f).results p=F' p):HOk (yv nq P0) f sI sO F':=by
 obtain ⟨h1,h2,h3,h4⟩:=UL h
 have h5:Nat.beq sO.sl.length (qR (yv nq P0) f).results.length=true:=by
  unfold zkJ at hO;rw [h1] at hO;exact hO
 exact funext he▸HOk.of h1 h2 (UV h4) h3 h5
end
end Go.Pi
