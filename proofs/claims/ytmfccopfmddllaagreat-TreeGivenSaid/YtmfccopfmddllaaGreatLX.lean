import Derived.Test.YtmfccopfmddllaaGreatKZ
import Derived.Test.YtmfccopfmddllaaGreatPiW
set_option linter.all false
namespace Go.Pi
set_option linter.unusedVariables false
inductive An where
 | l (h:zv) (xs:List (Ex×zv))
 | h (C:HC)
 | c (n:Nat) (xs:List (Ex×zv))
 | e (n:Nat) (cd:ze)
 | z (n i:Nat)
 | y (n i j:Nat)
 | n (n:Nat) (e:ze)
 | u (n i:Nat)
 | w (n i j:Nat)
 | b (n i j:Nat)
 | p (n:Nat) (os:List AO)
 | g (n:Nat) (os:List AO)
def Qj {α:Type}(n:Nat):List An→(List An→List AO×α)→List AO×α
 | .z m i::as,K=>(match Nat.beq m n with
  | true=>(match Qj n as K with | (x,r)=>(.fz i::x,r))
  | false=>K (.z m i::as))
 | .y m i j::as,K=>(match Nat.beq m n with
  | true=>(match Qj n as K with | (x,r)=>(.fzA i j::x,r))
  | false=>K (.y m i j::as))
 | .b m i j::as,K=>(match Nat.beq m n with
  | true=>(match Qj n as K with | (x,r)=>(.fzB i j::x,r))
  | false=>K (.b m i j::as))
 | .w m i j::as,K=>(match Nat.beq m n with
  | true=>(match Qj n as K with | (x,r)=>(.fzN i j::x,r))
  | false=>K (.w m i j::as))
 | .u m i::as,K=>(match Nat.beq m n with
  | true=>(match Qj n as K with | (x,r)=>(.un i::x,r))
  | false=>K (.u m i::as))
 | as,K=>K as
def zeY {α:Type}(n:Nat):List An→(ze→List An→α)→α
 | .e m cd::as,K=>(match Nat.beq m n with
  | true=>K cd as
  | false=>K .bool (.e m cd::as))
 | as,K=>K .bool as
def zb2 {α:Type}(o:PO)(n:Nat)(as:List An)(K:AO→List An→α):α:=match o with
 | ⟨dst,.callH f args,some (gt,gb),_,res⟩=>(match as with
  | .h C::as=>K (.hg dst f args gt gb C res) as
  | as=>K (.g dst (.callH f args) gt gb res .bool) as)
 | ⟨dst,op,some (gt,gb),_,res⟩=>zeY n as fun cd as=>K (.g dst op gt gb res cd) as
 | ⟨dst,.callH f args,none,_,res⟩=>(match as with
  | .h C::as=>K (.h dst f args C res) as
  | as=>K (.o dst (.callH f args) res .bool) as)
 | ⟨dst,op,none,_,res⟩=>zeY n as fun cd as=>K (.o dst op res cd) as
def isN (n:Nat):List An→Option (ze×List An)
 | .n m e::as=>(match Nat.beq m n with
  | true=>some (e,as)
  | false=>none)
 | _=>none
def mk3 (e:ze):PO→PO→PO→Option AO
 | ⟨some a,.append sz b x y,none,_,r1⟩,⟨some d,.indexAddr 1 u i,none,_,r2⟩,⟨none,.store 1 (.t d') (.t a'),none,_,r3⟩=>(match Nat.beq d d'&&Nat.beq a a' with
  | true=>some (.n3 a e sz b x y r1 d u i r2 r3)
  | false=>none)
 | _,_,_=>none
def Yf:List PO→Nat→List An→List AO×(Nat×List An)
 | [],n,as=>Qj n as fun as=>([],n+1,as)
 | [o],n,as=>Qj n as fun as=>zb2 o n as fun a as=>(match Yf [] (n+1) as with | (x,r)=>(a::x,r))
 | [o,o2],n,as=>Qj n as fun as=>zb2 o n as fun a as=>(match Yf [o2] (n+1) as with | (x,r)=>(a::x,r))
 | o::o2::o3::os,n,as=>Qj n as fun as=>(match isN n as with
  | some (e,as1)=>(match mk3 e o o2 o3 with
   | some a=>(match Yf os (n+3) as1 with | (x,r)=>(a::x,r))
   | none=>zb2 o n as fun a as=>(match Yf (o2::o3::os) (n+1) as with | (x,r)=>(a::x,r)))
  | none=>zb2 o n as fun a as=>(match Yf (o2::o3::os) (n+1) as with | (x,r)=>(a::x,r)))
def ze9:List PO→Nat→List An→List AOD×(Nat×List An)
 | [],n,as=>([],n+1,as)
 | o::os,n,as=>zeY n as fun cd as=>(match ze9 os (n+1) as with | (x,r)=>(⟨o.dst,o.op,o.guard,o.after,o.res,cd⟩::x,r))
inductive Wr where
 | id
 | gh (os:List AO)
 | pg (os:List AO)
def Wr.on:Wr→AC→AC
 | .id,a=>a
 | .gh os,a=> .gh os a
 | .pg os,a=> .pg os a
def zhh {α:Type}(n:Nat):List An→(Wr→List An→α)→α
 | .g m os::as,K=>(match Nat.beq m n with
  | true=>K (.gh os) as
  | false=>K .id (.g m os::as))
 | .p m os::as,K=>(match Nat.beq m n with
  | true=>K (.pg os) as
  | false=>K .id (.p m os::as))
 | as,K=>K .id as
def zaK {α:Type}(n:Nat):List An→(Option (List (Ex×zv))×Wr→List An→α)→α
 | .c m xs::as,K=>(match Nat.beq m n with
  | true=>zhh n as fun g as=>K (some xs,g) as
  | false=>K (none,.id) (.c m xs::as))
 | as,K=>zhh n as fun g as=>K (none,g) as
def Zq:Option (List (Ex×zv))×Wr→AC→AC
 | (none,g),a=>g.on a
 | (some xs,g),a=> .cut xs (g.on a)
def Qx:PC→Nat→List An→AC×(Nat×List An)
 | .skip,n,as=>(.skip,n,as)
 | .ret,n,as=>(.ret,n,as)
 | .exit j,n,as=>(.exit j,n,as)
 | .region false k ops,n,as=>zaK n as fun w as=>(match Yf ops (n+1) as with | (x,r)=>(Zq w (.reg k x),r))
 | .region true k ops,n,as=>zaK n as fun w as=>(match ze9 ops (n+1) as with | (x,r)=>(Zq w (.regd k x),r))
 | .seq a b,n,as=>zaK n as fun w as=>(match Qx a (n+1) as with
  | (x,n,as)=>(match Qx b n as with | (y,r)=>(Zq w (.seq x y),r)))
 | .cond c a b,n,as=>zaK n as fun w as=>(match Qx a (n+1) as with
  | (x,n,as)=>(match Qx b n as with | (y,r)=>(Zq w (.cond c x y),r)))
 | .block j a,n,as=>zaK n as fun w as=>(match Qx a (n+1) as with | (x,r)=>(Zq w (.block j x),r))
 | .loop a,n,as=>zaK n as fun w as=>(match as with
  | .l h xs::as=>(match Qx a (n+1) as with | (x,r)=>(Zq w (.loop h xs x),r))
  | as=>(match Qx a (n+1) as with | (x,r)=>(Zq w (.loop ⟨[],[],0,false⟩ [] x),r)))
def zhp (p:PF)(as:List An):AC:=(Qx p.body 0 as).1
section
variable {α:Type} {n:Nat}
theorem jC {X:List PO}: ∀ {as:List An} {K:List An→List AO×α},(∀l,AO.er (K l).1=X)→AO.er (Qj n as K).1=X
 | [],K,h=>h _
 | .l _ _::_,K,h=>h _
 | .h _::_,K,h=>h _
 | .c _ _::_,K,h=>h _
 | .e _ _::_,K,h=>h _
 | .z m i::as,K,h=>by
  unfold Qj;split
  ·exact jC (as:=as) h
  ·exact h _
 | .y m i j::as,K,h=>by
  unfold Qj;split
  ·exact jC (as:=as) h
  ·exact h _
 | .n _ _::_,K,h=>h _
 | .p _ _::_,K,h=>h _
 | .b m i j::as,K,h=>by
  unfold Qj;split
  ·exact jC (as:=as) h
  ·exact h _
 | .w m i j::as,K,h=>by
  unfold Qj;split
  ·exact jC (as:=as) h
  ·exact h _
 | .g _ _::_,K,h=>h _
 | .u m i::as,K,h=>by
  unfold Qj;split
  ·exact jC (as:=as) h
  ·exact h _
theorem zce {P:α→Prop}: ∀ {as:List An} {K:ze→List An→α},(∀c l,P (K c l))→P (zeY n as K):=by
 intro as K h;unfold zeY;split
 ·split
  ·exact h _ _
  ·exact h _ _
 ·exact h _ _
theorem zfI {P:α→Prop}{as:List An}{K:Wr→List An→α}(h: ∀c l,P (K c l)):P (zhh n as K):=by
 unfold zhh;split
 ·split
  ·exact h _ _
  ·exact h _ _
 ·split
  ·exact h _ _
  ·exact h _ _
 ·exact h _ _
theorem Jr {P:α→Prop}{as:List An}{K:Option (List (Ex×zv))×Wr→List An→α}(h: ∀c l,P (K c l)):P (zaK n as K):=by
 unfold zaK;split
 ·split
  ·exact zfI fun _ _=>h _ _
  ·exact h _ _
 ·exact zfI fun _ _=>h _ _
theorem jS {w:Option (List (Ex×zv))×Wr}{a:AC}:(Zq w a).er=a.er:=by
 rcases w with ⟨_ | _,_ | _ | _⟩<;>rfl
theorem zcw {o:PO}{as:List An}{K:AO→List An→α}{P:α→Prop}(h: ∀a l,AO.er [a]= [Z5 o]→P (K a l)):P (zb2 o n as K):=by
 unfold zb2;split
 ·split
  ·exact h _ _ rfl
  ·exact h _ _ rfl
 ·exact zce fun c l=>h _ _ rfl
 ·split
  ·exact h _ _ rfl
  ·exact h _ _ rfl
 ·exact zce fun c l=>h _ _ rfl
theorem AO.er_cons {a:AO}{x:List AO}{o:PO}(h:AO.er [a]= [o]):AO.er (a::x)=o::AO.er x:=by
 cases a<;>simp only [AO.er] at h ⊢ <;> first | (cases h;rfl) | (cases h;done)
theorem zko {e:ze}{o1 o2 o3:PO}{a:AO}{x:List AO}(h:mk3 e o1 o2 o3=some a):AO.er (a::x)=Z5 o1::Z5 o2::Z5 o3::AO.er x:=by
 unfold mk3 at h;split at h
 ·split at h
  ·rename_i hc;simp only [Bool.and_eq_true] at hc
   cases h;obtain rfl:=Nat.eq_of_beq_eq_true hc.1
   obtain rfl:=Nat.eq_of_beq_eq_true hc.2
   rfl
  ·cases h
 ·cases h
theorem QO: ∀ {os:List PO} {n:Nat} {as:List An},AO.er (Yf os n as).1=os.map Z5
 | [],n,as=>by
  unfold Yf;exact jC fun l=>rfl
 | [o],n,as=>by
  unfold Yf;refine jC fun l=>zcw (P:=fun r:List AO×(Nat×List An)=>AO.er r.1= [o].map Z5) fun a l h=> ?_
  show AO.er (a::(Yf [] (n+1) l).1)=_
  rw [AO.er_cons h,QO];rfl
 | [o,o2],n,as=>by
  unfold Yf;refine jC fun l=>zcw (P:=fun r:List AO×(Nat×List An)=>AO.er r.1= [o,o2].map Z5) fun a l h=> ?_
  show AO.er (a::(Yf [o2] (n+1) l).1)=_
  rw [AO.er_cons h,QO];rfl
 | o::o2::o3::os,n,as=>by
  have dflt: ∀l,AO.er (zb2 o n l fun a as=>(match Yf (o2::o3::os) (n+1) as with | (x,r)=>(a::x,r))).1=(o::o2::o3::os).map Z5:=fun l=>zcw (P:=fun r:List AO×(Nat×List An)=>AO.er r.1=(o::o2::o3::os).map Z5) fun a l h=>by
   show AO.er (a::(Yf (o2::o3::os) (n+1) l).1)=_
   rw [AO.er_cons h,QO];rfl
  unfold Yf;refine jC fun l=> ?_
  split
  ·split
   ·rename_i hm;show AO.er (_::(Yf _ _ _).1)=_
    rw [zko hm,QO];rfl
   ·exact dflt l
  ·exact dflt l
theorem zdK: ∀ {os:List PO} {n:Nat} {as:List An},(ze9 os n as).1.map AOD.er=os
 | [],n,as=>rfl
 | o::os,n,as=>zce (P:=fun r:List AOD×(Nat×List An)=>r.1.map AOD.er=o::os) fun c l=>by
  show AOD.er _::(ze9 os (n+1) l).1.map AOD.er=_
  rw [zdK];rfl
theorem YT: ∀ {c:PC} {n:Nat} {as:List An},(Qx c n as).1.er=y7 c
 | .skip,n,as=>rfl
 | .ret,n,as=>rfl
 | .exit j,n,as=>rfl
 | .region false k ops,n,as=>Jr (P:=fun r:AC×(Nat×List An)=>r.1.er=y7 (.region false k ops)) fun w l=>by
  show (Zq w (.reg k (Yf ops (n+1) l).1)).er=_
  rw [jS];simp only [AC.er,QO,y7]
 | .region true k ops,n,as=>Jr (P:=fun r:AC×(Nat×List An)=>r.1.er=y7 (.region true k ops)) fun w l=>by
  show (Zq w (.regd k (ze9 ops (n+1) l).1)).er=_
  rw [jS];simp only [AC.er,zdK,y7]
 | .seq a b,n,as=>Jr (P:=fun r:AC×(Nat×List An)=>r.1.er=y7 (.seq a b)) fun w l=>by
  show (Zq w (.seq (Qx a (n+1) l).1 (Qx b _ _).1)).er=_
  rw [jS];simp only [AC.er,YT,y7]
 | .cond c a b,n,as=>Jr (P:=fun r:AC×(Nat×List An)=>r.1.er=y7 (.cond c a b)) fun w l=>by
  show (Zq w (.cond c (Qx a (n+1) l).1 (Qx b _ _).1)).er=_
  rw [jS];simp only [AC.er,YT,y7]
 | .block j a,n,as=>Jr (P:=fun r:AC×(Nat×List An)=>r.1.er=y7 (.block j a)) fun w l=>by
  show (Zq w (.block j (Qx a (n+1) l).1)).er=_
  rw [jS];simp only [AC.er,YT,y7]
 | .loop a,n,as=>Jr (P:=fun r:AC×(Nat×List An)=>r.1.er=y7 (.loop a)) fun w l=>by
  dsimp only
  split
  ·rw [jS];simp only [AC.er,YT,y7]
  ·rw [jS];simp only [AC.er,YT,y7]
end
theorem zaw {p:PF}{as:List An}(h:p.body=y7 p.body):p.body=(zhp p as).er:=h.trans YT.symm
theorem Zy: ∀ {c:PC},y7 (y7 c)=y7 c
 | .skip=>rfl
 | .ret=>rfl
 | .exit _=>rfl
 | .region false k ops=>by simp only [y7,List.map_map];rfl
 | .region true k ops=>rfl
 | .seq a b=>by simp only [y7,Zy]
 | .cond c a b=>by simp only [y7,Zy]
 | .block j a=>by simp only [y7,Zy]
 | .loop a=>by simp only [y7,Zy]
section
variable {S:Nat→Type} [Sg:Sig S] {ρ ρ':Rho} {H H':zg} {fr:Fr} {b N:Nat} {t:TS S} {s g:St} {α:Type} {pr:yE}
theorem zc.pad {m:Nat}{args:List D}(h:zc fr b m ρ t ⟨args,H⟩)(k:Nat):zc fr b (args.length+k) ρ t ⟨args++List.replicate k .undef,H⟩:=by
 refine ⟨by simp,fun i v hv=> ?_,h.hp,h.inj,h.liv,h.nxt,h.frm,h.avl⟩
 have:=h.sl i v hv
 have e:(args++List.replicate k D.undef).getD i .undef=args.getD i .undef:=by
  rw [List.getD_eq_getElem?_getD,List.getD_eq_getElem?_getD];rcases Nat.lt_or_ge i args.length with q | q
  ·rw [List.getElem?_append_left q]
  ·rw [List.getElem?_append_right q,List.getElem?_eq_none q];rw [List.getElem?_replicate];split<;>rfl
 show VS ρ H v ((args++List.replicate k D.undef).getD i .undef)
 rw [e];exact this
def okV:Val S→Bool
 | .undef=>false
 | .tup _=>false
 | .agg _=>false
 | .one _ c _ => !isAgg c&&Nat.beq (W (S:=S) c) 1
 | _=>true
theorem zke {v:Val S}{ds:List D}(hv:okV v=true)(h:VC ρ H v ds): ∃d,ds= [d]∧VS ρ H v d∧Zf d=false:=by
 cases v with
 | undef=>cases hv
 | tup _=>cases hv
 | agg _=>cases hv
 | one n c x=>
  simp only [okV,Bool.and_eq_true,Bool.not_eq_true'] at hv;have hl:ds.length=1:=by
   have h':zh (Cl H n) (en c x) ds:=h
   have:=Nat.eq_of_beq_eq_true hv.2
   rw [←h'.len,qk];exact this
  match ds,hl,h with
  | [d],_,h=>
   refine ⟨d,rfl,by simp only [VS,VSx,hv.1];exact h,?_⟩
   have h:zh (Cl H n) (en c x) [d]:=h
   match hq:en c x,h with
   | [a],h=>
    have:=U6 (jl c x a (by rw [hq];simp)) h.1
    cases d<;>first | rfl | cases this
 | fp n c x j=>
  obtain ⟨d,rfl,h⟩:=h
  refine ⟨d,rfl,h,?_⟩
  obtain ⟨r,h⟩:=h
  have:=UY h
  cases d<;>first | rfl | cases this
 | whole o p=>obtain ⟨d,rfl,h⟩:=h;refine ⟨d,rfl,h,?_⟩;rcases h with ⟨_,_,_,_,_,rfl⟩ | ⟨_,rfl⟩<;>rfl
 | win o p off len=>obtain ⟨d,rfl,h⟩:=h;refine ⟨d,rfl,h,?_⟩;rcases h with ⟨_,_,_,_,_,_,rfl⟩ | ⟨_,_,_,rfl⟩<;>rfl
 | ptr o p i j=>obtain ⟨d,rfl,h⟩:=h;refine ⟨d,rfl,h,?_⟩;obtain ⟨_,_,_,_,_,_,rfl⟩:=h;rfl
 | pa o j z len=>obtain ⟨d,rfl,h⟩:=h;refine ⟨d,rfl,h,?_⟩;obtain ⟨_,_,_,_,_,_,_,rfl⟩:=h;rfl
 | _=>obtain ⟨d,rfl,h⟩:=h;refine ⟨d,rfl,h,?_⟩;cases h;rfl
def slR (t:TS S)(r:PR):Option (Val S):=match UB t r with
 | some (true,vs)=>some (.agg vs)
 | some (false,[v])=>(match okV v with
  | true=>some v
  | false=>none)
 | _=>none
theorem zj4 (h:zc fr b N ρ t g){r:PR}{v:Val S}(hr:slR t r=some v): ∃d,Y7 g r=some d∧VS ρ g.hp v d∧Zf d=false:=by
 unfold slR at hr;split at hr
 ·rename_i vs q
  cases hr;obtain ⟨d,ds,k1,k2,k3,_⟩:=j7 h q
  obtain rfl:=k3 rfl
  exact ⟨_,k1,⟨ds,rfl,k2⟩,rfl⟩
 ·rename_i w q;split at hr
  ·rename_i hw
   cases hr;obtain ⟨d,ds,k1,k2,_,k4⟩:=j7 h q
   obtain rfl:=k4 rfl
   obtain ⟨a,b',e,q1,q2⟩:=k2
   have q2:b'= []:=q2
   subst q2;rw [List.append_nil] at e;subst e;obtain ⟨d',e,k5,k6⟩:=zke hw q1
   cases e;exact ⟨d,k1,k5,k6⟩
  ·cases hr
 ·cases hr
def zhd (t:TS S):List PR→Option (List (Val S))
 | []=>some []
 | r::rs=>match slR t r with
  | some v=>(match zhd t rs with
   | some vs=>some (v::vs)
   | none=>none)
  | none=>none
theorem zdj (h:zc fr b N ρ t g): ∀ {rs:List PR} {vs:List (Val S)},zhd t rs=some vs→ ∃ds,Y6 g rs=some ds∧zh (VS ρ g.hp) vs ds∧(∀d∈ds,Zf d=false)∧ds.length=rs.length
 | [],_,e=>by cases e;exact ⟨[],rfl,trivial,by simp,rfl⟩
 | r::rs,vs,e=>by
  simp only [zhd] at e;split at e
  ·rename_i v hv;split at e
   ·rename_i us hu
    cases e;obtain ⟨d,k1,k2,k3⟩:=zj4 h hv
    obtain ⟨ds,k4,k5,k6,k7⟩:=zdj h hu
    refine ⟨d::ds,by simp only [Y6,k1,k4,Option.bind_some,Option.map_some],⟨k2,k5⟩,fun x hx=> ?_,by simp [k7]⟩
    rcases List.mem_cons.mp hx with rfl | hx
    ·exact k3
    ·exact k6 x hx
   ·cases e
  ·cases e
def zjw (sO:zv)(rs:List PR)(ex:Ex)(t:TS S):Option (Flds S sO.cs):=match ex with
 | .exit _=>none
 | _=>(match zhd t rs with
  | some vs=>Za sO { t with sl:=V4 0 vs,av:= [] }
  | none=>none)
def zi1 (Γ:List (yf S pr))(N k:Nat)(c:AC)(sI sO:zv)(rs:List PR)(p:Flds S sI.cs):Option (Flds S sO.cs):=run Γ N k c (qD sI p) (zjw sO rs)
theorem HOk.of {f:Nat}{pf:PF}{Γ:List (yf S pr)}{k:Nat}{c:AC}{sI sO:zv}(hf:pr f=some pf)(ho:pf.orc=none)(hb:pf.body=c.er)(hN:Nat.ble sI.sl.length pf.ntmps=true)(hO:Nat.beq sO.sl.length pf.results.length=true) :
  HOk pr f sI sO (zi1 Γ pf.ntmps k c sI sO pf.results):=by
 intro p r hr fr ρ args H hl h;refine Yd.body hf ho ?_
 have hN:=Nat.le_of_ble_eq_true hN
 have hO:=Nat.eq_of_beq_eq_true hO
 rw [hb];have h0:=h.pad (pf.ntmps-args.length)
 rw [show args.length+(pf.ntmps-args.length)=pf.ntmps by omega] at h0;refine (jw c hr h0).mono ?_
 rintro ex s ⟨t',k1,g,ρ1,k2,k3⟩
 have key:zjw sO pf.results .normal t'=some r→ ∃d,Zg s pf.results=some d∧Zf d=tpN sO.sl.length∧ ∃g' ρ',GhK ⟨qQ d,s.hp⟩ g'∧zc fr 0 sO.sl.length ρ' (qD sO r) g':=fun q=>by
  simp only [zjw] at q;split at q
  ·rename_i vs hvs;obtain ⟨ds,a1,a2,a3,a4⟩:=zdj k3 hvs
   have a1':=QG k2 a1
   have h4:zc fr 0 ds.length ρ1 { t' with sl:=V4 0 vs,av:= [] } ⟨ds,g.hp⟩:=by
    refine ⟨rfl,fun i v hv=> ?_,k3.hp,k3.inj,k3.liv,k3.nxt,k3.frm,List.nodup_nil,fun _ hr=>nomatch hr⟩
    obtain ⟨j,e,hj⟩:=Qs hv
    rw [Nat.zero_add] at e;subst e;obtain ⟨d,h2,h3⟩:=a2.get hj
    show VS ρ1 g.hp v (ds.getD i .undef)
    rw [List.getD_eq_getElem?_getD,h2];exact h3
   obtain ⟨ρ',h5⟩:=h4.closeSh q
   rw [a4,←hO] at h5;have fin: ∀d,qQ d=ds→Zf d=tpN sO.sl.length→Zg s pf.results=some d→ ∃d,Zg s pf.results=some d∧Zf d=tpN sO.sl.length∧ ∃g' ρ',GhK ⟨qQ d,s.hp⟩ g'∧zc fr 0 sO.sl.length ρ' (qD sO r) g':=
    fun d q1 q2 q3=>⟨d,q3,q2,⟨ds,g.hp⟩,ρ',⟨q1,k2.hp⟩,h5⟩
   have hn:sO.sl.length=ds.length:=by rw [hO,a4]
   match ds,a1',a3,hn,fin with
   | [],a1',a3,hn,fin=>exact fin (.tup []) rfl (by rw [hn];rfl) (by simp only [Zg,a1',Option.map_some])
   | [d],a1',a3,hn,fin=>
    have hnt:=a3 d (by simp)
    exact fin d (by cases d<;>first | rfl | cases hnt) (by rw [hn];exact hnt) (by simp only [Zg,a1',Option.map_some])
   | d::d2::ds,a1',a3,hn,fin=>exact fin (.tup (d::d2::ds)) rfl (by rw [hn];rfl) (by simp only [Zg,a1',Option.map_some])
  ·cases q
 cases ex with
 | exit i=>cases k1
 | normal=>exact ⟨fun _ e=>(by cases e),key k1⟩
 | ret=>exact ⟨fun _ e=>(by cases e),key k1⟩
end
def yL (nq:Nat→Bool)(P0:yE):yE:=fun f=>(P0 f).map fun p=>JT (jA nq p)
def PF0:PF:=⟨0,[],.skip,none⟩
def jp (P:yE)(f:Nat):PF:=(P f).getD PF0
def ze0 (P:yE)(f n:Nat):Bool:=match P f with
 | some pf=>(match pf.orc with
  | none=>Nat.ble n pf.ntmps
  | some _=>false)
 | none=>false
def zlp (P:yE)(f n:Nat):Bool:=match P f with
 | some pf=>Nat.beq n pf.results.length
 | none=>false
section
variable {S:Nat→Type} [Sg:Sig S] {pr:yE} {f:Nat}
abbrev enP {ps:List PK}{rs:List RK}{F:Flds S (pcs ps)→Option (Flds S (rcs rs))}(h:FOk pr f ps rs F):yf S pr:= .plain ⟨f,_,_,_,h⟩
abbrev enL {c:ze}{ps:List PK}{rs:List RK}{F:T S c×Flds S (pcs ps)→Option (T S c×Flds S (rcs rs))}(h:LOk pr f c ps rs F):yf S pr:= .lent ⟨f,_,_,_,_,h⟩
abbrev enH {sI sO:zv}{F:Flds S sI.cs→Option (Flds S sO.cs)}(h:HOk pr f sI sO F):yf S pr:= .heap ⟨f,_,_,_,h⟩
end
section
variable {S:Nat→Type} [Sg:Sig S] {nq:Nat→Bool} {P0:yE} {f k:Nat}
theorem zam {n:Nat}(h:ze0 (yL nq P0) f n=true):yL nq P0 f=some (jp (yL nq P0) f)∧(jp (yL nq P0) f).orc=none∧Nat.ble n (jp (yL nq P0) f).ntmps=true∧(jp (yL nq P0) f).body=y7 (jp (yL nq P0) f).body:=by
 unfold ze0 at h;split at h
 ·rename_i pf hf;have e:jp (yL nq P0) f=pf:=by unfold jp;rw [hf];rfl
  rw [e];split at h
  ·rename_i ho;refine ⟨hf,ho,h,?_⟩
   unfold yL at hf;obtain ⟨p,_,h2⟩:=Option.map_eq_some_iff.1 hf
   rw [←h2];exact Zy.symm
  ·cases h
 ·cases h
theorem FOk.mk {ps:List PK}{ks:List RK}{F':Flds S (pcs ps)→Option (Flds S (rcs ks))}(as:List An)(Γ:List (yf S (yL nq P0)))(h:ze0 (yL nq P0) f ps.length=true)
  (he: ∀p,zi2 Γ (jp (yL nq P0) f).ntmps k (zhp (jp (yL nq P0) f) as) ps ks (jp (yL nq P0) f).results p=F' p):FOk (yL nq P0) f ps ks F':=by
 obtain ⟨h1,h2,h3,h4⟩:=zam h
 exact funext he▸FOk.of h1 h2 (zaw h4) h3
theorem LOk.mk {c:ze}{ps:List PK}{ks:List RK}{F':T S c×Flds S (pcs ps)→Option (T S c×Flds S (rcs ks))}(as:List An)(Γ:List (yf S (yL nq P0)))(h:ze0 (yL nq P0) f (ps.length+1)=true)(hW:Nat.blt 0 (W (S:=S) c)=true)
  (he: ∀p,zi0 Γ (jp (yL nq P0) f).ntmps k (zhp (jp (yL nq P0) f) as) c ps ks (jp (yL nq P0) f).results p=F' p):LOk (yL nq P0) f c ps ks F':=by
 obtain ⟨h1,h2,h3,h4⟩:=zam h
 exact funext he▸LOk.of h1 h2 (zaw h4) h3 hW
theorem HOk.mk {sI sO:zv}{F':Flds S sI.cs→Option (Flds S sO.cs)}(as:List An)(Γ:List (yf S (yL nq P0)))(h:ze0 (yL nq P0) f sI.sl.length=true)(hO:zlp (yL nq P0) f sO.sl.length=true)
  (he: ∀p,zi1 Γ (jp (yL nq P0) f).ntmps k (zhp (jp (yL nq P0) f) as) sI sO (jp (yL nq P0) f).results p=F' p):HOk (yL nq P0) f sI sO F':=by
 obtain ⟨h1,h2,h3,h4⟩:=zam h
 have h5:Nat.beq sO.sl.length (jp (yL nq P0) f).results.length=true:=by
  unfold zlp at hO;rw [h1] at hO;exact hO
 exact funext he▸HOk.of h1 h2 (zaw h4) h3 h5
end
end Go.Pi
