import Derived.Test.YtmfccopfmddllaaGreatLE
set_option linter.all false
namespace Go.Pi
set_option linter.unusedVariables false
def zog (pr:yn)(c:PC)(Q:Ex→St→Prop):Ex→St→Prop
 | .normal,s=>Ends pr (.loop c) s Q
 | ex,s=>Q ex s
theorem Ends.round {pr:yn}{c:PC}{s:St}{Q:Ex→St→Prop}(h:Ends pr c s (zog pr c Q)):Ends pr (.loop c) s Q:=by
 obtain ⟨n,ex,s1,h1,h2⟩:=h
 cases ex with
 | normal=>
  obtain ⟨k,ex,s2,h3,h4⟩:=h2
  have h3':y8 (code (runN pr k) k c) k s1=some (ex,s2):=h3
  refine ⟨max n (k+1),ex,s2,?_,h4⟩
  show y8 (code (runN pr (max n (k+1))) (max n (k+1)) c) (max n (k+1)) s=_
  obtain ⟨j,hj⟩: ∃j,max n (k+1)=j+1:=⟨max n (k+1)-1,by omega⟩
  have e1:=qm (yE pr (Nat.le_max_left n (k+1))) (Nat.le_max_left n (k+1)) h1
  have hk:k≤max n (k+1):=by omega
  have e2:=Zx (fun s r h=>qm (yE pr hk) hk h) (show k≤j by omega) h3'
  rw [hj] at e1 e2 ⊢
  simp only [y8,e1];exact e2
 | exit i=>exact ⟨n+1,_,s1,by
   show y8 (code (runN pr (n+1)) (n+1) c) (n+1) s=_
   simp only [y8,qm (yE pr (Nat.le_succ n)) (Nat.le_succ n) h1],h2⟩
 | ret=>exact ⟨n+1,_,s1,by
   show y8 (code (runN pr (n+1)) (n+1) c) (n+1) s=_
   simp only [y8,qm (yE pr (Nat.le_succ n)) (Nat.le_succ n) h1],h2⟩
inductive AC where
 | skip
 | ret
 | exit (j:Nat)
 | reg (k:Nat) (os:List AO)
 | regd (k:Nat) (os:List AOD)
 | seq (a c:AC)
 | cond (c:PX) (x y:AC)
 | block (j:Nat) (a:AC)
 | cut (xs:List (Ex×zo)) (a:AC)
 | gh (os:List AO) (a:AC)
 | pg (os:List AO) (a:AC)
 | loop (h:zo) (xs:List (Ex×zo)) (a:AC)
def AC.er:AC→PC
 | .skip=> .skip
 | .ret=> .ret
 | .exit j=> .exit j
 | .reg k os=> .region false k (AO.er os)
 | .regd k os=> .region true k (os.map AOD.er)
 | .seq a c=> .seq a.er c.er
 | .cond c x y=> .cond c x.er y.er
 | .block j a=> .block j a.er
 | .cut _ a=>a.er
 | .gh _ a=>a.er
 | .pg _ a=>a.er
 | .loop _ _ a=> .loop a.er
def zj0:AO→Bool
 | .fz _=>true
 | .fzA _ _=>true
 | .fzN _ _=>true
 | .fzB _ _=>true
 | .un _=>true
 | _=>false
def Ui (os:List AO):Bool:=os.all zj0
theorem Ji: ∀ {os:List AO},Ui os=true→AO.er os= []
 | [],_=>rfl
 | a::os,h=>by
  simp only [Ui,List.all_cons,Bool.and_eq_true] at h;have:=Ji (os:=os) h.2
  cases a<;>first | exact this | (cases h.1)
def exB:Ex→Ex→Bool
 | .normal,.normal=>true
 | .exit i,.exit j=>Nat.beq i j
 | .ret,.ret=>true
 | _,_=>false
theorem zfv {x y:Ex}(h:exB x y=true):x=y:=by
 unfold exB at h;split at h
 ·rfl
 ·rw [Nat.eq_of_beq_eq_true h]
 ·rfl
 ·cases h
section
variable {S:Nat→Type} [Sg:Sig S] {ρ ρ':Rho} {H H':zf} {fr:Fr} {b N:Nat} {t:TS S} {s g:St} {pr:yn}
def QT (S:Nat→Type):List (Ex×zo)→Type
 | []=>Empty
 | [x]=>Flds S x.2.cs
 | x::y::xs=>Flds S x.2.cs ⊕ QT S (y::xs)
def ZX:(xs:List (Ex×zo))→Ex→TS S→Option (QT S xs)
 | [],_,_=>none
 | [x],ex,t=>(match exB x.1 ex with
  | true=>jK x.2 t
  | false=>none)
 | x::y::xs,ex,t=>(match exB x.1 ex with
  | true=>(match jK x.2 t with
   | some p=>some (.inl p)
   | none=>none)
  | false=>(match ZX (y::xs) ex t with
   | some q=>some (.inr q)
   | none=>none))
def zcj {α:Type}:(xs:List (Ex×zo))→QT S xs→(Ex→TS S→Option α)→Option α
 | [],q,_=>nomatch q
 | [x],q,K=>K x.1 (qg x.2 q)
 | x::y::xs,q,K=>(match q with
  | .inl p=>K x.1 (qg x.2 p)
  | .inr q=>zcj (y::xs) q K)
theorem Jj {α:Type}(h:zc fr b N ρ t g): ∀ {xs:List (Ex×zo)} {ex:Ex} {q:QT S xs} {K:Ex→TS S→Option α} {r:α},ZX xs ex t=some q→zcj xs q K=some r→ ∃t' ρ',K ex t'=some r∧zc fr b N ρ' t' g∧t'.av= []
 | [],_,q,_,_,_,_=>nomatch q
 | [x],ex,q,K,r,h1,h2=>by
  simp only [ZX] at h1;split at h1
  ·rename_i hx;obtain rfl:=zfv hx
   obtain ⟨ρ',k⟩:=h.closeSh h1
   exact ⟨_,ρ',h2,k,rfl⟩
  ·cases h1
 | x::y::xs,ex,q,K,r,h1,h2=>by
  simp only [ZX] at h1;split at h1
  ·rename_i hx;obtain rfl:=zfv hx
   split at h1
   ·rename_i p hp
    cases h1;obtain ⟨ρ',k⟩:=h.closeSh hp
    exact ⟨_,ρ',h2,k,rfl⟩
   ·cases h1
  ·split at h1
   ·rename_i q' hq
    cases h1;exact Jj h hq h2
   ·cases h1
def run (Γ:List (zQ S pr))(N k:Nat):AC→ {α:Type}→TS S→(Ex→TS S→Option α)→Option α
 | .skip,_,t,K=>K .normal t
 | .ret,_,t,K=>K .ret t
 | .exit j,_,t,K=>K (.exit j) t
 | .reg n os,_,t,K=>yO Γ N os { t with av:=List.range n } fun t=>K .normal { t with av:= [] }
 | .regd n os,_,t,K=>zci Γ N os 0 [] { t with av:=List.range n } fun t=>K .normal { t with av:= [] }
 | .seq a c,_,t,K=>run Γ N k a t fun ex t=>match ex with
  | .normal=>run Γ N k c t K
  | ex=>K ex t
 | .cond c x y,_,t,K=>(match scE t c with
  | some (.bool v)=>cond v (run Γ N k x t K) (run Γ N k y t K)
  | _=>none)
 | .block j a,_,t,K=>run Γ N k a t fun ex t=>match ex with
  | .exit i=>(match Nat.beq i j with
   | true=>K .normal t
   | false=>K (.exit i) t)
  | ex=>K ex t
 | .cut xs a,_,t,K=>(run Γ N k a t fun ex t=>ZX xs ex t).bind fun q=>zcj xs q K
 | .pg os a,_,t,K=>(match Ui os with
  | true=>yO Γ N os t fun t=>run Γ N k a t K
  | false=>none)
 | .gh os a,_,t,K=>run Γ N k a t fun ex t=>match ex with
  | .normal=>(match Ui os with
   | true=>yO Γ N os t fun t=>K .normal t
   | false=>none)
  | ex=>K ex t
 | .loop h xs a,_,t,K=>(match jK h t with
  | some p=>(iter k (fun p=>run Γ N k a (qg h p) fun ex t=>match ex with
    | .normal=>(match jK h t with
     | some p=>some (.inl p)
     | none=>none)
    | ex=>(match ZX xs ex t with
     | some q=>some (.inr q)
     | none=>none)) p).bind fun q=>zcj xs q K
  | none=>none)
theorem zcc (H L:zf):HLe H (H++L):=fun id sz es h=>by
 have:=yB (H:=H) (id:=id) (by rw [h];intro e;cases e)
 unfold hat at h ⊢
 rw [List.getD_eq_getElem?_getD] at h ⊢
 rw [List.getElem?_append_left this];exact h
theorem Zy {H L:zf}{id:Nat}(h:id<H.length):hat (H++L) id=hat H id:=by
 unfold hat;rw [List.getD_eq_getElem?_getD,List.getD_eq_getElem?_getD,List.getElem?_append_left h]
theorem zc.free (h:zc fr b N ρ t g)(k:Nat):zc fr g.hp.length N ρ { t with av:=List.range k } ⟨g.ts,g.hp++List.replicate k .fresh⟩:=by
 have hlt: ∀ {id sz es},hat g.hp id= .row sz es true→id<g.hp.length:=fun e=>yB (by rw [e];intro q;cases q)
 have hx:Ext ρ g.hp ρ (g.hp++List.replicate k .fresh):=⟨zcc _ _,fun _ _ _ h=>h,fun _ _ _ _ es _ e=>⟨es,by rw [Zy (hlt e)];exact e,rfl⟩⟩
 refine ⟨h.len,fun i v hv=>(h.sl i v hv).ext hx,fun o ob ho=>qn.ext hx (fun p id hp=> ?_) (h.hp _ _ ho),h.inj,fun o p id hp=> ?_,h.nxt,fun id k hk=> ?_,List.nodup_range,fun r hr=> ?_⟩
 ·obtain ⟨_,_,_,e⟩:=h.liv _ _ _ hp
  exact Zy (hlt e)
 ·obtain ⟨k1,sz,es,e⟩:=h.liv _ _ _ hp
  exact ⟨k1,sz,es,by rw [Zy (hlt e)];exact e⟩
 ·obtain ⟨h1,h2⟩:=h.frm id k hk
  exact ⟨by rw [Zy h2];exact h1,by simp;omega⟩
 ·have hr:r<k:=by simpa using hr
  refine ⟨?_,by simp;exact hr,?_⟩
  ·unfold hat;rw [List.getD_eq_getElem?_getD,List.getElem?_append_right (by omega)];simp [hr]
  ·cases e:fr (g.hp.length+r) with
   | none=>rfl
   | some x=>exact absurd (h.frm _ _ e).2 (by omega)
theorem zc.done (h:zc fr b N ρ t g)(b':Nat):zc fr b' N ρ { t with av:= [] } g:=⟨h.len,h.sl,h.hp,h.inj,h.liv,h.nxt,h.frm,List.nodup_nil,fun r hr=>nomatch hr⟩
def Fin {α:Type}(fr:Fr)(N:Nat)(K:Ex→TS S→Option α)(r:α)(ex:Ex)(s:St):Prop:= ∃t',K ex t'=some r∧Rel fr 0 N t' s
theorem Fin.lift {α:Type}{c:PC}{K:Ex→TS S→Option α}{r:α}(hg:GhK s g)(h:Ends pr c g (Fin fr N K r)):Ends pr c s (Fin fr N K r):=
 (h.gh hg).mono fun ex s' ⟨g',q1,t',q2,q3⟩=>⟨t',q2,q3.gh q1⟩
theorem qY {Γ:List (zQ S pr)}{k:Nat}: ∀(c:AC) {α:Type} {t:TS S} {g:St} {ρ:Rho} {K:Ex→TS S→Option α} {r:α},run Γ N k c t K=some r→zc fr 0 N ρ t g→Ends pr c.er g (Fin fr N K r)
 | .skip,_,t,g,ρ,K,r,hr,h=>Ends.skip ⟨t,hr,Rel.of h⟩
 | .ret,_,t,g,ρ,K,r,hr,h=>Ends.ret ⟨t,hr,Rel.of h⟩
 | .exit j,_,t,g,ρ,K,r,hr,h=>Ends.exit ⟨t,hr,Rel.of h⟩
 | .reg n os,_,t,g,ρ,K,r,hr,h=>by
  refine Ends.region ?_
  refine Steps.mono (yz hr (h.free n)) ?_
  rintro s' ⟨t',k1,g',ρ',k2,k3⟩
  exact ⟨_,k1,g',ρ',k2,k3.done 0⟩
 | .regd n os,_,t,g,ρ,K,r,hr,h=>by
  refine Ends.regionD ?_
  obtain ⟨m,s',k0,t',k1,g',ρ',k2,k3⟩:=zaA (sn:= []) hr (h.free n) (fun p hp=>nomatch hp)
  exact ⟨m,s',k0,_,k1,g',ρ',k2,k3.done 0⟩
 | .seq a c,_,t,g,ρ,K,r,hr,h=>by
  refine Ends.seq ((qY a hr h).mono ?_)
  rintro ex s' ⟨t',k1,g',ρ',k2,k3⟩
  cases ex with
  | normal=>exact Fin.lift k2 (qY c k1 k3)
  | exit j=>exact ⟨t',k1,g',ρ',k2,k3⟩
  | ret=>exact ⟨t',k1,g',ρ',k2,k3⟩
 | .cond c x y,_,t,g,ρ,K,r,hr,h=>by
  simp only [run] at hr;split at hr
  ·rename_i v hv;refine Ends.cond (h.sc hv) (fun e=> ?_) (fun e=> ?_)
   ·subst e;exact qY x hr h
   ·subst e;exact qY y hr h
  ·cases hr
 | .block j a,_,t,g,ρ,K,r,hr,h=>by
  refine Ends.block ((qY a hr h).mono ?_)
  rintro ex s' ⟨t',k1,k2⟩
  cases ex with
  | normal=>exact ⟨t',k1,k2⟩
  | ret=>exact ⟨t',k1,k2⟩
  | exit i=>
   simp only at k1
   simp only [UZ];split at k1
   ·rename_i e;rw [if_pos (Nat.eq_of_beq_eq_true e)];exact ⟨t',k1,k2⟩
   ·rename_i e;rw [if_neg (ja e)];exact ⟨t',k1,k2⟩
 | .cut xs a,_,t,g,ρ,K,r,hr,h=>by
  simp only [run,Option.bind_eq_some_iff] at hr;obtain ⟨q,h1,h2⟩:=hr
  refine (qY a h1 h).mono ?_
  rintro ex s' ⟨t',k1,g',ρ',k2,k3⟩
  obtain ⟨t2,ρ2,k4,k5,_⟩:=Jj k3 k1 h2
  exact ⟨t2,k4,g',ρ2,k2,k5⟩
 | .pg os a,_,t,g,ρ,K,r,hr,h=>by
  simp only [run] at hr;split at hr
  ·rename_i hg;have:=yz hr h
   rw [Ji hg] at this;obtain ⟨n,s2,e1,t2,e2,g2,ρ2,e3,e4⟩:=this
   cases e1;exact Fin.lift e3 (qY a e2 e4)
  ·cases hr
 | .gh os a,_,t,g,ρ,K,r,hr,h=>by
  refine (qY a hr h).mono ?_
  rintro ex s' ⟨t',k1,g',ρ',k2,k3⟩
  cases ex with
  | normal=>
   simp only at k1
   split at k1
   ·rename_i hg;have:=yz k1 k3
    rw [Ji hg] at this;obtain ⟨n,s2,e1,t2,e2,e3⟩:=this
    cases e1;exact ⟨t2,e2,e3.gh k2⟩
   ·cases k1
  | exit j=>exact ⟨t',k1,g',ρ',k2,k3⟩
  | ret=>exact ⟨t',k1,g',ρ',k2,k3⟩
 | .loop hd xs a,_,t,g,ρ,K,r,hr,h=>by
  simp only [run] at hr;split at hr
  ·rename_i p hp;simp only [Option.bind_eq_some_iff] at hr;obtain ⟨q,h1,h2⟩:=hr
   obtain ⟨ρ1,h3⟩:=h.closeSh hp
   clear hp h
   have key: ∀(n:Nat) (p:Flds S hd.cs) (g:St) (ρ1:Rho),iter n (fun p=>run Γ N k a (qg hd p) fun ex t=>match ex with
     | .normal=>(match jK hd t with
      | some p=>some (.inl p)
      | none=>none)
     | ex=>(match ZX xs ex t with
      | some q=>some (.inr q)
      | none=>none)) p=some q→zc fr 0 N ρ1 (qg hd p) g→Ends pr (.loop a.er) g (Fin fr N K r):=by
    intro n;induction n with
    | zero=>intro p g ρ1 h1;cases h1
    | succ n ih=>
     intro p g ρ1 h1 h3;simp only [iter,Option.bind_eq_some_iff] at h1;obtain ⟨v,hv,h1⟩:=h1
     refine Ends.round ((qY a hv h3).mono ?_)
     rintro ex s' ⟨t',k1,g',ρ',k2,k3⟩
     have out: ∀ {ex:Ex},(match ZX xs ex t' with
       | some q=>some (Sum.inr q)
       | none=>none:Option (Flds S hd.cs ⊕ QT S xs))=some v→Fin fr N K r ex s':=by
      intro ex k1;split at k1
      ·rename_i q' hq
       cases k1
       cases h1;obtain ⟨t2,ρ2,k4,k5,_⟩:=Jj k3 hq h2
       exact ⟨t2,k4,g',ρ2,k2,k5⟩
      ·cases k1
     cases ex with
     | normal=>
      simp only at k1
      split at k1
      ·rename_i p' hp'
       cases k1;obtain ⟨ρ2,k4⟩:=k3.closeSh hp'
       exact Fin.lift k2 (ih p' g' ρ2 h1 k4)
      ·cases k1
     | exit j=>exact out k1
     | ret=>exact out k1
   exact key k p g ρ1 h1 h3
  ·cases hr
end
section
variable {S:Nat→Type} [Sg:Sig S] {ρ ρ':Rho} {H H':zf} {fr:Fr} {b N:Nat} {t:TS S} {s g:St} {pr:yn}
def VY (t:TS S):PR→Option (Bool×List (Val S))
 | .tmp i=>(match look t.sl i with
  | some v=>Vm v
  | none=>none)
 | .cell ag n a=>(match look t.sl a with
  | some (.ptr o p i j)=>(match p,Nat.beq i 0&&Nat.beq j 0,look t.hp o with
   | [],true,some (.box pn vs)=>(match Nat.beq (yr vs) n,ag,vs with
    | true,true,vs=>some (true,vs)
    | true,false,[v]=>(match Vm v with
     | some (false,[w])=>some (false,[w])
     | _=>none)
    | _,_,_=>none)
   | _,_,_=>none)
  | _=>none)
theorem jH (h:zc fr b N ρ t g){r:PR}{f:Bool}{vs:List (Val S)}(hr:VY t r=some (f,vs)): ∃d ds,YC g r=some d∧VCs ρ g.hp vs ds∧(f=true→d= .agg ds)∧(f=false→ds= [d]):=by
 cases r with
 | tmp i=>
  simp only [VY] at hr;split at hr
  ·rename_i v hv;obtain ⟨ds,k1,k2⟩:=Z1 hr (h.sl _ _ hv)
   exact ⟨_,ds,rfl,k1,k2⟩
  ·cases hr
 | cell ag n a=>
  simp only [VY] at hr;split at hr
  ·rename_i o p i j ha;split at hr
   ·rename_i ws hij ho;simp only [Bool.and_eq_true] at hij;obtain rfl:=Nat.eq_of_beq_eq_true hij.1
    obtain rfl:=Nat.eq_of_beq_eq_true hij.2
    obtain ⟨id,sz,es,c1,c2,c3,c4⟩:=h.sl _ _ ha
    obtain ⟨id',ds,k1,k2,k3,k9⟩:=h.hp _ _ ho
    rw [c1] at k1;cases k1;rw [c2] at k2;cases k2;rw [Nat.zero_mul,Nat.zero_add] at c4;split at hr
    ·rename_i hn
     cases hr;have hl:ds.length=n:=Xg hn k3
     refine ⟨.agg ds,ds,?_,k3,fun _=>rfl,fun e=>nomatch e⟩
     simp only [YC,c4,c2,hl,if_true,shaped]
    ·rename_i v hn;have hl:ds.length=n:=Xg hn k3
     split at hr
     ·rename_i w hw
      cases hr;obtain ⟨a',b',rfl,q1,q2⟩:=k3
      have q2:b'= []:=q2
      subst q2;have hv: ∃d,a'= [d]∧VS ρ g.hp v d:=by
       cases v with
       | one m c x=>
        simp only [Vm,Option.some.injEq,Prod.mk.injEq] at hw;have hlen:a'.length=1:=by
         rw [q1.len]
         cases c<;>first | rfl | (exact absurd hw.1 (by simp [isAgg]))
        match a',hlen with
        | [d],_=>
         refine ⟨d,rfl,?_⟩
         simp only [VS,VSx,hw.1];exact q1
       | agg _=>obtain ⟨_,_,q⟩:=q1;exact q.elim
       | tup _=>obtain ⟨_,_,q⟩:=q1;exact q.elim
       | _=>obtain ⟨d,rfl,q⟩:=q1;exact ⟨d,rfl,q⟩
      obtain ⟨d,rfl,hv⟩:=hv
      obtain ⟨ds',z1,z2,z3⟩:=Z1 hw hv
      have z3:=z3 rfl
      subst z3;refine ⟨d,[d],?_,z1,(fun e=>nomatch e),fun _=>rfl⟩
      simp only [YC,c4,c2];rw [if_pos (by simpa using hl)];rfl
     ·cases hr
    ·cases hr
   ·cases hr
  ·cases hr
def zaj (t:TS S):RK→PR→List Nat
 | .own _,r=>(match VY t r with
  | some (false,[.whole o _])=> [o]
  | _=> [])
 | _,_=> []
def jF (t:TS S):List RK→List PR→List Nat
 | k::ks,r::rs=>zaj t k r++jF t ks rs
 | _,_=> []
def inP (os:List Nat):Nat→List Nat→Bool:=fun q _=>os.contains q
def ziL (t':TS S)(c:Code)(r:PR):Option (T S c):=match VY t' r with
 | some (f,vs)=>(match zdp f (isAgg c)&&(isAgg c || scC (S:=S) 9 c) with
  | true=>mkT (gA t') Vq c vs
  | false=>none)
 | none=>none
def ziN (t:TS S)(c:Code)(r:PR):Option (List (T S c)):=match VY t r with
 | some (false,[.whole o p])=>(match p,look t.hp o with
  | [],some (.row n e l)=>(match Nat.ble (n+dp e+1) 11 with
   | true=>Y6 e c l
   | false=>none)
  | _,_=>none)
 | some (false,[.nil])=>some []
 | _=>none
def ziO (t:TS S)(c:Code)(r:PR):Option (List (T S c)):=match VY t r with
 | some (false,[v])=>(match scC (S:=S) 9 c with
  | true=>gC 11 v (.list c)
  | false=>none)
 | _=>none
def ziM (t':TS S)(c:Code)(r:PR):Option (T S c):=match VY t' r with
 | some (false,[.fp n c' v j])=>(match Nat.beq j 0&&Nat.ble n 11 with
  | true=>conv c' c v
  | false=>none)
 | some (false,[.ptr o p i j])=>(match p,Nat.beq i 0&&Nat.beq j 0,look t'.hp o with
  | [],true,some (.box pn vs)=>mkT (gA t') Vq c vs
  | _,_,_=>none)
 | _=>none
def JP (t t':TS S):(ks:List RK)→List PR→Option (Flds S (rcs ks))
 | [],[]=>some ()
 | .val c::ks,r::rs=>(match ziL t' c r,JP t t' ks rs with
  | some x,some p=>some (x,p)
  | _,_=>none)
 | .own c::ks,r::rs=>(match ziN t c r,JP t t' ks rs with
  | some x,some p=>some (x,p)
  | _,_=>none)
 | .cl c::ks,r::rs=>(match ziO t c r,JP t t' ks rs with
  | some x,some p=>some (x,p)
  | _,_=>none)
 | .fp c::ks,r::rs=>(match ziM t' c r,JP t t' ks rs with
  | some x,some p=>some (x,p)
  | _,_=>none)
 | _,_=>none
def YD:RK→Bool
 | .cl _=>true
 | _=>false
def plR:RK→Bool
 | .val c=>scC (S:=S) 9 c
 | .cl c=>true
 | _=>false
def okR (ks:List RK):Bool:=match ks.filter YD with
 | []=>true
 | [_]=>ks.all (plR (S:=S))
 | _=>false
def QV:List Nat→Bool
 | []=>true
 | x::xs => !xs.contains x&&QV xs
def zet (x:List Nat)(ks:List RK)(rs:List PR)(t:TS S):Option (Flds S (rcs ks)):=match QV (jF t ks rs)&&okR (S:=S) ks with
 | true=>JP t (t.clear (inP (x++jF t ks rs))) ks rs
 | false=>none
theorem Z7 {d:D}(hd: ∀id off len,d ≠ .ref id off len):Y0 H d=((frz ya d).run H).map fun x=>(x.1,[],x.2):=by
 cases d<;>first | rfl | exact absurd rfl (hd _ _ _)
theorem zht (h:zc fr b N ρ t g)(hg:GhK s g){c:Code}{r:PR}{x:T S c}(hx:ziL t c r=some x) :
  ∃d y rd,YC g r=some d∧Y0 s.hp d=some (y,[],rd)∧VS yQ [] (.one 1 c x) y∧(∀i∈rd,dead g.hp i∨Own ρ i)∧jP d=false∧(scC (S:=S) 9 c=true→rd= []):=by
 unfold ziL at hx;split at hx
 ·rename_i f vs hr;split at hx
  ·rename_i hf;simp only [Bool.and_eq_true,Bool.or_eq_true] at hf;obtain ⟨hf,hf2⟩:=hf
   obtain rfl:=zc7 hf
   obtain ⟨d,ds,k1,k2,k3,k4⟩:=jH h hr
   have k5:=ZT (R:=FzR (Own ρ) g.hp) (fun k z=>FzR.int k z) (fun v c x ds hg k=>zeS h hg k) hx k2
   have scd:scC (S:=S) 9 c=true→ds=en c x:=fun hsc=>by
    have: ∀ {cs ds:List D},(∀d∈cs,sc d=true∧jn d=true)→zg (FzR (Own ρ) g.hp) cs ds→ds=cs:=by
     intro cs;induction cs with
     | nil=>intro ds _ k;cases ds with
      | nil=>rfl
      | cons _ _=>exact k.elim
     | cons c cs ih=>
      intro ds hs k
      cases ds with
      | nil=>exact k.elim
      | cons d ds=>
       obtain ⟨⟨z,z1,z2,z3⟩,k⟩:=k
       have e:=z2.sc (hs c (by simp)).1
       have hc:=(hs c (by simp)).1
       rw [ih (fun d hd=>hs d (by simp [hd])) k]
       congr 1
       cases d<;>simp only [frz,Eff.run] at z1<;>first
        | (cases z1;exact e)
        | (split at z1<;>first
         | (split at z1<;>first | (simp only [ze,Option.bind_eq_some_iff] at z1;obtain ⟨_,_,z1⟩:=z1;cases z1;simp only at e;rw [←e] at hc;cases hc) | cases z1)
         | cases z1)
        | (simp only [ze,Option.bind_eq_some_iff] at z1;obtain ⟨_,_,z1⟩:=z1;cases z1;simp only at e;rw [←e] at hc;cases hc)
        | cases z1
    exact this (jp hsc) k5
   cases hc:isAgg c with
   | true=>
    obtain ⟨z,q1,q2,q3⟩:=FzR.each k5
    have e:=k3 hc
    subst e;refine ⟨.agg ds,.agg z.1,z.2,k1,?_,?_,q3,rfl,fun hsc=> ?_⟩
    ·rw [Z7 (fun _ _ _ e=>D.noConfusion e)];have:(frz ya (.agg ds)).run g.hp=some (.agg z.1,z.2):=by simp only [ya,frz,ze,q1,Option.bind_some,Eff.run]
     rw [(jT hg.hp this).1];rfl
    ·simp only [VS,VSx,hc];exact ⟨_,rfl,ZR q2⟩
    ·have:=scd hsc
     subst this;have: ∀ {cs:List D},(∀d∈cs,sc d=true∧jn d=true)→(ym (frz 11) cs).run g.hp=some (cs,[]):=by
      intro cs;induction cs with
      | nil=>intro _;rfl
      | cons a cs ih=>
       intro hs;have ha:(frz 11 a).run g.hp=some (a,[]):=by
        have:=(hs a (by simp)).1
        cases a<;>first | rfl | cases this
       simp [ym,ze,ha,ih (fun d hd=>hs d (by simp [hd])),Eff.run]
     rw [this (jp hsc)] at q1
     cases q1;rfl
   | false=>
    have e:=k4 hc
    subst e;rw [hc,Bool.false_eq_true,false_or] at hf2;have e:=scd hf2
    have hd:sc d=true∧jn d=true:=jp hf2 d (by rw [←e];simp)
    have hfz: ∀G:zf,(frz ya d).run G=some (d,[]):=fun G=>by
     have:=hd.1
     cases d<;>first | rfl | cases this
    refine ⟨d,d,[],k1,?_,?_,by simp,?_,fun _=>rfl⟩
    ·rw [Z7 (fun _ _ _ e=>by subst e;cases hd.1),hfz];rfl
    ·simp only [VS,VSx,hc];rw [←e];exact ⟨Cl.plain (by have:=hd.1;cases d<;>first | rfl | cases this) (Nr.rfl' d),trivial⟩
    ·have:=hd.1
     cases d<;>first | rfl | cases this
  ·cases hx
 ·cases hx
theorem zg7 {n:Nat}{e:Code}{q:List Nat→Option (Option Nat)}{l:List (T S e)}{m:Nat}(h:zw H n e q l)(hm:n+dp e≤m){id:Nat}{es:List (List D)}(h1:q []=some (some id))(h2:hat H id= .row (W (S:=S) e) es true) :
  ∃z,(yf (frz m) es).run H=some z∧zg (zg Nr) (l.map (en e)) z.1∧ ∀i∈z.2,dead H i ∨ ∃p,q p=some (some i)∧p ≠ []:=by
 cases ho:zW e with
 | false=>
  rcases h.els ho with ⟨c1,_⟩ | ⟨id',es',c1,c2,c3⟩
  ·rw [h1] at c1;cases c1
  ·rw [h1] at c1;cases c1;rw [h2] at c2;cases c2;obtain ⟨z,z1,z2,z3⟩:=Yx (m:=m) (H:=H) (P:=fun i=> ∃p,q p=some (some i)∧p ≠ []) (f:=frz m) (vs:=l.map (en e)) (ds:=es) (zg.of (by rw [List.length_map];exact c3.1.symm) fun i a d ha hd=>by
    rw [List.getElem?_map,Option.map_eq_some_iff] at ha;obtain ⟨v,hv,rfl⟩:=ha
    obtain ⟨d',e1,e2⟩:=c3.2 i v hv
    rw [hd] at e1;cases e1;exact Ya (by omega) e2)
   exact ⟨z,z1,z2,z3⟩
 | true=>
  cases e with
  | own e=>
   rcases qe.elts h with ⟨c1,_⟩ | ⟨id',es',c1,c2,c3,c4⟩
   ·rw [h1] at c1;cases c1
   ·rw [h1] at c1;cases c1;have h2':hat H id= .row 1 es true:=h2
    rw [h2'] at c2;cases c2;obtain ⟨z,z1,z2,z3⟩:=Yx (m:=m) (H:=H) (P:=fun i=> ∃p,q p=some (some i)∧p ≠ []) (f:=frz m) (vs:=l.map (en (.own e))) (ds:=es) (zg.of (by rw [List.length_map];exact c3.symm) fun i a d ha hd=>by
     rw [List.getElem?_map,Option.map_eq_some_iff] at ha;obtain ⟨v,hv,rfl⟩:=ha
     obtain ⟨ds,e1,y,e2,rfl,e4⟩:=c4 i v hv
     rw [hd] at e1;cases e1;obtain ⟨m',rfl⟩: ∃m',m=m'+1:=by
      simp only [dp] at hm;exact ⟨m-1,by omega⟩
     have hrec:=V8 (m:=m') e4 (by simp only [dp] at hm;omega)
     rcases e4.top with ⟨t1,t2⟩ | ⟨id2,es2,t1,t2,t3⟩
     ·have t1:q [i]=some none:=t1
      rw [e2] at t1;cases t1;refine ⟨([.nil],[]),rfl,⟨?_,trivial⟩,by simp⟩
      have:v= []:=t2
      subst this;exact Nr.mk_nil
     ·have t1':q [i]=some (some id2):=t1
      rw [e2] at t1';cases t1';obtain ⟨z,k1,k2,k3⟩:=hrec id2 es2 t1 t2 0 (List.length v) (by rw [t3];simp)
      refine ⟨([z.1],z.2),by simp [ym,ze,yN,k1,Eff.run],⟨?_,trivial⟩,fun j hj=>(k3 j hj).elim .inl fun ⟨p,hp⟩=> .inr ⟨i::p,hp,by simp⟩⟩
      have e5:((v:List (T S e)).drop 0).take (List.length v)=v:=by rw [List.drop_zero,List.take_of_length_le (Nat.le_refl _)]
      rw [e5] at k2;exact k2)
    exact ⟨z,z1,z2,z3⟩
  | _=>cases ho
structure Xp (s g:St) (ρ:Rho) (os:List Nat) (hd:List Nat) (k:RK) (d y:D) (h rd:List Nat):Prop where
 e:Y0 s.hp d=some (y,h,rd)
 tp:jP d=false
 no:YD k=false→(∀id∈h, ∃o∈hd,ρ o []=some (some id))∧zP h=true∧ ∀i∈rd,dead g.hp i ∨ ∃o p,ρ o p=some (some i)∧(os.contains o=false∨p ≠ [])
 pl:plR (S:=S) k=true→YD k=false→h= []∧rd= []
 cl:YD k=true→zP h=true∧(h= []∨rd= [])∧(∀id∈h,dead g.hp id)∧ ∀i∈rd,dead g.hp i
theorem zhv (h:zc fr b N ρ t g)(hg:GhK s g){os:List Nat}{c:Code}{r:PR}{l:List (T S c)}(hx:ziN t c r=some l) :
  ∃d y hd rd,YC g r=some d∧Xp (S:=S) s g ρ os (zaj t (.own c) r) (.own c) d y hd rd∧zez c l y:=by
 unfold ziN at hx;split at hx
 ·rename_i o p hr;split at hx
  ·rename_i n e m ho;split at hx
   ·rename_i hn;have hn:n+dp e≤10:=by have:=Nat.le_of_ble_eq_true hn;omega
    obtain ⟨d,ds,k1,k2,k3,k4⟩:=jH h hr
    have k4:=k4 rfl
    subst k4;obtain ⟨w1,w2,w3⟩:=yU hx
    have hv:VR1 (S:=S) ρ g.hp (.whole o []) d:=by
     obtain ⟨a,b',e1,e2,e3⟩:=k2
     obtain ⟨d',rfl,q⟩:=e2
     cases e1;exact q
    have hrow:=h.hp _ _ ho
    have hh:zaj t (.own c) r= [o]:=by simp only [zaj,hr]
    rw [hh];rcases hv with ⟨id,sz,es,c1,c2,rfl⟩ | ⟨c1,rfl⟩
    ·have hsz:sz=W (S:=S) e:=by
      rcases zw.top (S:=S) hrow with ⟨t1,_⟩ | ⟨id2,es2,t1,t2,_⟩
      ·rw [c1] at t1;cases t1
      ·rw [c1] at t1;cases t1;rw [c2] at t2;cases t2;rfl
     subst hsz;obtain ⟨z,z1,z2,z3⟩:=zg7 (S:=S) hrow (m:=10) hn c1 c2
     have z1':=Qz (by decide:10≤ya) z1
     have c2s:hat s.hp id= .row (W (S:=S) e) es true:=by
      rcases hg.hp.2 id with q | ⟨_,_,_,q⟩ | ⟨_,_,_,_,q⟩
      ·rw [←q];exact c2
      ·rw [c2] at q;cases q
      ·rw [c2] at q;cases q
     refine ⟨_,.own (W (S:=S) e) z.1,[id],z.2,k1,⟨?_,rfl,fun _=>⟨fun i hi=> ?_,rfl,fun i hi=> ?_⟩,fun hp=>(by cases hp),fun hp=>(by cases hp)⟩,.inr ⟨z.1,by rw [w1],?_⟩⟩
     ·simp only [Y0,c2s];rw [if_pos ⟨trivial,trivial⟩,(jT hg.hp z1').1];rfl
     ·simp only [List.mem_singleton] at hi;subst hi;exact ⟨o,by simp,c1⟩
     ·exact (z3 i hi).elim .inl fun ⟨p,q1,q2⟩=> .inr ⟨o,p,q1,.inr q2⟩
     ·rw [←w2] at z2;exact ⟨by have:=z2.len;simpa using this.symm,fun i v hv=>by
       obtain ⟨d,q1,q2⟩:=j3 z2 hv
       exact ⟨d,q1,ZR q2⟩⟩
    ·refine ⟨_,.nil,[],[],k1,⟨rfl,rfl,fun _=>⟨by simp,rfl,by simp⟩,fun hp=>(by cases hp),fun hp=>(by cases hp)⟩,.inl ⟨rfl,?_⟩⟩
     rcases zw.top (S:=S) hrow with ⟨_,t1⟩ | ⟨id2,es2,t1,_,_⟩
     ·have t1:m= []:=t1
      subst t1;simpa using w3
     ·rw [c1] at t1;cases t1
   ·cases hx
  ·cases hx
 ·rename_i hr
  cases hx;obtain ⟨d,ds,k1,k2,k3,k4⟩:=jH h hr
  have k4:=k4 rfl
  subst k4;obtain ⟨a,b',e1,⟨d',rfl,q⟩,e3⟩:=k2
  cases e1;obtain rfl:d= .nil:=q
  exact ⟨_,.nil,[],[],k1,⟨rfl,rfl,fun _=>⟨by simp,rfl,by simp⟩,fun hp=>(by cases hp),fun hp=>(by cases hp)⟩,.inl ⟨rfl,rfl⟩⟩
 ·cases hx
theorem VCs.one1 {v:Val S}{d:D}(h:VCs ρ H [v] [d]):VC ρ H v [d]:=by
 obtain ⟨a,b',e1,e2,e3⟩:=h
 have e3:b'= []:=e3
 rw [e3,List.append_nil] at e1;rw [e1];exact e2
theorem zbO {n:Nat}: ∀ {cs ds:List D},(∀d∈cs,sc d=true∧jn d=true)→zg (Cl H n) cs ds→ds=cs
 | [],[],_,_=>rfl
 | c::cs,d::ds,hs,h=>by
  rw [h.1.sc (hs c (by simp)).1,zbO (fun d hd=>hs d (by simp [hd])) h.2]
 | [],_::_,_,h | _::_,[],_,h=>h.elim
theorem zaX {G:zf}{n:Nat}: ∀ {cs:List D},(∀d∈cs,sc d=true∧jn d=true)→(ym (frz (n+1)) cs).run G=some (cs,[])
 | [],_=>rfl
 | a::cs,hs=>by
  have ha:(frz (n+1) a).run G=some (a,[]):=by
   have:=(hs a (by simp)).1
   cases a<;>first | rfl | cases this
  have ih:=zaX (G:=G) (n:=n) (cs:=cs) (fun d hd=>hs d (by simp [hd]))
  simp [ym,ze,ha,ih,Eff.run]
theorem zaV {G:zf}{n:Nat}: ∀ {es:List (List D)},(∀e∈es, ∀d∈e,sc d=true∧jn d=true)→(yf (frz (n+1)) es).run G=some (es,[])
 | [],_=>rfl
 | e::es,hs=>by
  have ih:=zaV (G:=G) (n:=n) (es:=es) (fun e he=>hs e (by simp [he]))
  simp [yf,ze,zaX (G:=G) (n:=n) (hs e (by simp)),ih,Eff.run]
theorem zhw (h:zc fr b N ρ t g)(hg:GhK s g){os hd0:List Nat}{c:Code}{r:PR}{l:List (T S c)}(hx:ziO t c r=some l) :
  ∃d y hd rd,YC g r=some d∧Xp (S:=S) s g ρ os hd0 (.cl c) d y hd rd∧(VS yQ [] (.one 1 (.list c) l) y∨zez c l y):=by
 unfold ziO at hx;split at hx
 ·rename_i v hr;split at hx
  ·rename_i hsc;obtain ⟨d,ds,k1,k2,k3,k4⟩:=jH h hr
   have k4:=k4 rfl
   subst k4;have k5:=zeR (by decide) hx k2.one1
   have k5:Cl g.hp 11 (.lst (W (S:=S) c) (l.map (en c))) d:=k5.1
   have htp:jP d=false:=by
    have:=Uv rfl k5
    cases d<;>first | rfl | cases this
   obtain ⟨z,z1,z2,z3⟩:=k5.frz
   have zs:=(jT hg.hp (YS z1 (show 11≤ya by decide))).1
   have hy:VS (S:=S) yQ [] (.one 1 (.list c) l) z.1:=VS.mk_lst (zii rfl z2)
   have plain:Y0 s.hp d=some (z.1,[],z.2)→ ∃d y hd rd,YC g r=some d∧Xp (S:=S) s g ρ os hd0 (.cl c) d y hd rd∧(VS yQ [] (.one 1 (.list c) l) y∨zez c l y):=fun e=>
    ⟨d,z.1,[],z.2,k1,⟨e,htp,fun q=>(by cases q),fun _ q=>(by cases q),fun _=>⟨rfl,.inl rfl,by simp,z3⟩⟩,.inl hy⟩
   by_cases hd: ∃id off len,d= .ref id off len
   ·obtain ⟨id,off,len,rfl⟩:=hd
    rcases k5 with ⟨q,_⟩ | ⟨sz,es,id',off',len',es0,e1,e2,e3,e4,e5,e6⟩ | ⟨_,_,_,_,_,_,_,_,e,_⟩ | ⟨_,_,_,e,_⟩
    ·cases q
    ·cases e1
     cases e2;rcases hg.hp.2 id with q | ⟨sz2,es2,q1,q2⟩ | ⟨_,_,_,_,q2⟩
     rotate_right
     ·rw [e3] at q2;cases q2
     ·exact plain (by
       have e3':hat s.hp id=_:=q.symm.trans e3
       simp only [Y0,e3',zs];rfl)
     ·rw [e3] at q2
      cases q2;by_cases hw:off=0∧len=es0.length
      ·obtain ⟨rfl,rfl⟩:=hw
       rw [List.drop_zero,List.take_of_length_le (Nat.le_refl _)] at e5;have hes: ∀e∈es0, ∀d∈e,sc d=true∧jn d=true:=by
        intro e he d hd;obtain ⟨i,hi,rfl⟩:=List.mem_iff_getElem.mp he
        have hl:=e5.len
        rw [List.length_map] at hl;obtain ⟨e',q3,q4⟩:=j3 e5 (List.getElem?_eq_getElem (by omega:i<l.length))
        rw [List.getElem?_eq_getElem hi] at q3
        cases q3;rw [zbO (jp hsc) q4] at hd;exact jp hsc d hd
       refine ⟨_,.own (W (S:=S) c) es0,[id],[],k1,⟨?_,rfl,fun q=>(by cases q),fun _ q=>(by cases q),fun _=>⟨rfl,.inr rfl,fun i hi=>by
        simp only [List.mem_singleton] at hi;subst hi;exact ⟨_,_,e3⟩,by simp⟩⟩,.inr (.inr ⟨es0,rfl,?_⟩)⟩
       ·simp only [Y0,q1];rw [if_pos ⟨trivial,trivial⟩,show ya=11+1 from rfl,zaV hes];rfl
       ·refine ⟨by have:=e5.len;simpa using this.symm,fun i v hv=> ?_⟩
        obtain ⟨e',q3,q4⟩:=j3 e5 hv
        refine ⟨e',q3,?_⟩
        rw [zbO (jp hsc) q4];have: ∀ {cs:List D},(∀d∈cs,sc d=true∧jn d=true)→zg Nr cs cs:=by
         intro cs;induction cs with
         | nil=>intro _;trivial
         | cons a cs ih=>intro hs;exact ⟨Nr.rfl' a,ih fun d hd=>hs d (by simp [hd])⟩
        exact ZR (this (jp hsc))
      ·exact plain (by simp only [Y0,q1];rw [if_neg hw,zs];rfl)
    ·cases e
    ·cases e
   ·exact plain (by rw [Z7 fun id off len e=>hd ⟨id,off,len,e⟩,zs];rfl)
  ·cases hx
 ·cases hx
theorem zhu (h:zc fr b N ρ t g)(hg:GhK s g){c:Code}{r:PR}{x:T S c}(hx:ziM t c r=some x) :
  ∃d y rd,YC g r=some d∧Y0 s.hp d=some (y,[],rd)∧VS yQ [] (.fp 1 c x 0) y∧(∀i∈rd,dead g.hp i∨Own ρ i)∧jP d=false:=by
 unfold ziM at hx;split at hx
 ·rename_i n c' v' j hr;split at hx
  ·rename_i hn;simp only [Bool.and_eq_true] at hn;obtain rfl:=Nat.eq_of_beq_eq_true hn.1
   have hn:=Nat.le_of_ble_eq_true hn.2
   obtain ⟨d,ds,k1,k2,k3,k4⟩:=jH h hr
   have k4:=k4 rfl
   subst k4;obtain ⟨_,e,r',k⟩:=k2.one1
   cases e;obtain ⟨z,q1,q2,q3⟩:=k.frz
   have zs:=(jT hg.hp (YS q1 (show n≤ya by simp only [ya];omega))).1
   have hd:jP d=false∧ ∀id off len,d ≠ .ref id off len:=by
    rcases qK k with ⟨_,rfl,_⟩ | ⟨_,_,_,_,_,_,_,_,rfl,_⟩<;>exact ⟨rfl,fun _ _ _ e=>by cases e⟩
   refine ⟨d,z.1,z.2,k1,by rw [Z7 hd.2,zs];rfl,?_,fun i hi=> .inl (q3 i hi),hd.1⟩
   obtain ⟨ds,e,q4⟩:=q2.fptr
   rw [e];obtain ⟨a,a',rfl,q5,q6⟩:=zg.split q4
   refine ⟨a',?_⟩
   refine Cl.plain rfl (Nr.mk_fptr ?_)
   rw [(jJ hx).1];exact zg.append q5 (by
    have: ∀l:List D,zg Nr l l:=fun l=>by
     induction l with
     | nil=>trivial
     | cons a l ih=>exact ⟨Nr.rfl' a,ih⟩
    exact this a')
  ·cases hx
 ·rename_i o p i j hr;split at hx
  ·rename_i vs hc ho;simp only [Bool.and_eq_true] at hc;obtain rfl:=Nat.eq_of_beq_eq_true hc.1
   obtain rfl:=Nat.eq_of_beq_eq_true hc.2
   obtain ⟨d,ds,k1,k2,k3',k4⟩:=jH h hr
   have k4:=k4 rfl
   subst k4;obtain ⟨_,e,id,sz,es,c1,c2,c3,c4⟩:=k2.one1
   cases e;obtain ⟨id',ds,e1,e2,k3,k9⟩:=h.hp _ _ ho
   rw [c1] at e1;cases e1;rw [c2] at e2;cases e2;have k4:=ZT (R:=FzR (Own ρ) g.hp) (fun k z=>FzR.int k z) (fun v c x ds hg k=>zeS h hg k) hx k3
   obtain ⟨z,q1,q2,q3⟩:=FzR.each k4
   have zz:(frz ya d).run g.hp=some (.fptr z.1,id::z.2):=by
    rw [c4,Nat.zero_mul,Nat.zero_add];simp only [ya,frz,Eff.run,c2,Nat.zero_div,Nat.zero_mod,List.getElem?_cons_zero,List.drop_zero,ze,q1,Option.bind_some]
   have zs:=(jT hg.hp zz).1
   refine ⟨d,.fptr z.1,id::z.2,k1,?_,⟨[],by rw [List.drop_zero,List.append_nil];exact Cl.plain rfl (Nr.mk_fptr q2)⟩,fun i hi=> ?_,by rw [c4];rfl⟩
   ·rw [Z7 (fun _ _ _ e=>by rw [c4] at e;cases e),zs];rfl
   ·simp at hi;rcases hi with rfl | hi
    ·exact .inr ⟨o,[],c1⟩
    ·exact q3 i hi
  ·cases hx
 ·cases hx
theorem ze6: ∀ {xs ys:List Nat},zP xs=true→zP ys=true→(∀x∈xs,x ∉ ys)→zP (xs++ys)=true
 | [],_,_,h2,_=>h2
 | x::xs,ys,h1,h2,h3=>by
  simp only [zP,Bool.and_eq_true,Bool.not_eq_true',List.contains_eq_mem,decide_eq_false_iff_not,List.cons_append,List.mem_append,not_or] at h1 ⊢
  exact ⟨⟨h1.1,h3 x (by simp)⟩,ze6 h1.2 h2 fun y hy=>h3 y (by simp [hy])⟩
theorem za1 {P:Nat→List Nat→Bool}{i:Nat}(h:Own (yc ρ P) i): ∃o p,P o p=false∧ρ o p=some (some i):=by
 obtain ⟨o,p,h⟩:=h
 obtain ⟨h1,h2⟩:=zO h
 exact ⟨o,p,h1,h2⟩
theorem jx: ∀ {xs ys:List Nat},QV (xs++ys)=true→QV ys=true∧ ∀x∈xs,x ∉ ys
 | [],ys,h=>⟨h,by simp⟩
 | x::xs,ys,h=>by
  simp only [List.cons_append,QV,Bool.and_eq_true,Bool.not_eq_true',List.contains_eq_mem,decide_eq_false_iff_not,List.mem_append,not_or] at h;obtain ⟨h1,h2⟩:=jx h.2
  exact ⟨h1,fun y hy=>by
   rcases List.mem_cons.1 hy with rfl | hy
   ·exact h.1.2
   ·exact h2 y hy⟩
structure Xs (s g:St) (ρ:Rho) (os hd:List Nat) (ks:List RK) (ds xs:List D) (h rd:List Nat):Prop where
 e:QP s.hp ds=some (xs,h,rd)
 tp: ∀d∈ds,jP d=false
 len:ds.length=ks.length
 no:ks.filter YD= []→(∀id∈h, ∃o∈hd,ρ o []=some (some id))∧zP h=true∧ ∀i∈rd,dead g.hp i ∨ ∃o p,ρ o p=some (some i)∧(os.contains o=false∨p ≠ [])
 pl:ks.all (plR (S:=S))=true→ks.filter YD= []→h= []∧rd= []
 cl:ks.all (plR (S:=S))=true→ ∀k,ks.filter YD= [k]→zP h=true∧(h= []∨rd= [])∧(∀id∈h,dead g.hp id)∧ ∀i∈rd,dead g.hp i
theorem Xs.cons (hr:zc fr b N ρ t g){os hd1 hd:List Nat}{k:RK}{ks:List RK}{d y:D}{ds xs:List D}{h1 h rd1 rd:List Nat}(hn: ∀x∈hd1,x ∉ hd)(hx:Xp (S:=S) s g ρ os hd1 k d y h1 rd1)(h2:Xs (S:=S) s g ρ os hd ks ds xs h rd) :
  Xs (S:=S) s g ρ os (hd1++hd) (k::ks) (d::ds) (y::xs) (h1++h) (rd1++rd):=by
 refine ⟨by simp only [QP,hx.e,h2.e,Option.bind_some],fun d' hd'=> ?_,by simp [h2.len],fun hk=> ?_,fun hp hk=> ?_,fun hp k' hk=> ?_⟩
 ·rcases List.mem_cons.1 hd' with rfl | hd'
  ·exact hx.tp
  ·exact h2.tp _ hd'
 ·cases hc:YD k with
  | true=>rw [List.filter_cons_of_pos hc] at hk;cases hk
  | false=>
   rw [List.filter_cons_of_neg (by rw [hc];simp)] at hk
   obtain ⟨a1,a2,a3⟩:=hx.no hc
   obtain ⟨b1,b2,b3⟩:=h2.no hk
   refine ⟨fun id hid=> ?_,ze6 a2 b2 fun x hx1 hx2=> ?_,fun i hi=> ?_⟩
   ·rcases List.mem_append.1 hid with q | q
    ·obtain ⟨o,o1,o2⟩:=a1 id q
     exact ⟨o,by simp [o1],o2⟩
    ·obtain ⟨o,o1,o2⟩:=b1 id q
     exact ⟨o,by simp [o1],o2⟩
   ·obtain ⟨o,o1,o2⟩:=a1 x hx1
    obtain ⟨o',o3,o4⟩:=b1 x hx2
    obtain ⟨rfl,_⟩:=hr.inj _ _ _ _ _ o2 o4
    exact hn o o1 o3
   ·rcases List.mem_append.1 hi with q | q
    ·exact a3 i q
    ·exact b3 i q
 ·simp only [List.all_cons,Bool.and_eq_true] at hp
  cases hc:YD k with
  | true=>rw [List.filter_cons_of_pos hc] at hk;cases hk
  | false=>
   rw [List.filter_cons_of_neg (by rw [hc];simp)] at hk
   obtain ⟨rfl,rfl⟩:=hx.pl hp.1 hc
   obtain ⟨rfl,rfl⟩:=h2.pl hp.2 hk
   exact ⟨rfl,rfl⟩
 ·simp only [List.all_cons,Bool.and_eq_true] at hp
  cases hc:YD k with
  | true=>
   rw [List.filter_cons_of_pos hc] at hk;injection hk with _ hk;obtain ⟨rfl,rfl⟩:=h2.pl hp.2 hk
   simpa using hx.cl hc
  | false=>
   rw [List.filter_cons_of_neg (by rw [hc];simp)] at hk
   obtain ⟨rfl,rfl⟩:=hx.pl hp.1 hc
   simpa using h2.cl hp.2 k' hk
theorem Qg (h:zc fr b N ρ t g){os:List Nat}(h':zc fr b N (yc ρ (inP os)) (t.clear (inP os)) g)(hg:GhK s g): ∀ {ks:List RK} {rs:List PR} {p:Flds S (rcs ks)},QV (jF t ks rs)=true→JP t (t.clear (inP os)) ks rs=some p →
  ∃ds xs hd rd,YB g rs=some ds∧Xs (S:=S) s g ρ os (jF t ks rs) ks ds xs hd rd∧Zi ks p xs
 | [],[],p,_,hp=>⟨[],[],[],[],rfl,⟨rfl,by simp,rfl,fun _=>⟨by simp,rfl,by simp⟩,fun _ _=>⟨rfl,rfl⟩,fun _ k hk=>by cases hk⟩,rfl⟩
 | [],_::_,_,_,hp=>by simp [JP] at hp
 | .val c::ks,r::rs,p,hn,hp=>by
  simp only [JP] at hp;split at hp
  ·rename_i x q hx hq
   cases hp;obtain ⟨hn1,hn2⟩:=jx hn
   obtain ⟨ds,xs,hd,rd2,m1,m2,m3⟩:=Qg h h' hg hn1 hq
   obtain ⟨d,y,rd,k1,k2,k3,k4,k5,k6⟩:=zht h' hg hx
   exact ⟨d::ds,y::xs,[]++hd,rd++rd2,by simp only [YB,k1,m1,Option.bind_some,Option.map_some],Xs.cons h hn2 ⟨k2,k5,fun _=>⟨by simp,rfl,fun i hi=>(k4 i hi).imp_right fun q=>by
    obtain ⟨o,p,q1,q2⟩:=za1 q
    exact ⟨o,p,q2,.inl q1⟩⟩,fun hp _=>⟨rfl,k6 hp⟩,fun q=>by cases q⟩ m2,k3,m3⟩
  ·cases hp
 | .own c::ks,r::rs,p,hn,hp=>by
  simp only [JP] at hp;split at hp
  ·rename_i x q hx hq
   cases hp;obtain ⟨hn1,hn2⟩:=jx hn
   obtain ⟨ds,xs,hd,rd2,m1,m2,m3⟩:=Qg h h' hg hn1 hq
   obtain ⟨d,y,hd1,rd,k1,k2,k3⟩:=zhv (os:=os) h hg hx
   exact ⟨d::ds,y::xs,hd1++hd,rd++rd2,by simp only [YB,k1,m1,Option.bind_some,Option.map_some],Xs.cons h hn2 k2 m2,k3,m3⟩
  ·cases hp
 | .cl c::ks,r::rs,p,hn,hp=>by
  simp only [JP] at hp;split at hp
  ·rename_i x q hx hq
   cases hp;obtain ⟨hn1,hn2⟩:=jx hn
   obtain ⟨ds,xs,hd,rd2,m1,m2,m3⟩:=Qg h h' hg hn1 hq
   obtain ⟨d,y,hd1,rd,k1,k2,k3⟩:=zhw (os:=os) (hd0:=zaj t (.cl c) r) h hg hx
   exact ⟨d::ds,y::xs,hd1++hd,rd++rd2,by simp only [YB,k1,m1,Option.bind_some,Option.map_some],Xs.cons h hn2 k2 m2,k3,m3⟩
  ·cases hp
 | .fp c::ks,r::rs,p,hn,hp=>by
  simp only [JP] at hp;split at hp
  ·rename_i x q hx hq
   cases hp;obtain ⟨hn1,hn2⟩:=jx hn
   obtain ⟨ds,xs,hd,rd2,m1,m2,m3⟩:=Qg h h' hg hn1 hq
   obtain ⟨d,y,rd,k1,k2,k3,k4,k5⟩:=zhu h' hg hx
   exact ⟨d::ds,y::xs,[]++hd,rd++rd2,by simp only [YB,k1,m1,Option.bind_some,Option.map_some],Xs.cons h hn2 ⟨k2,k5,fun _=>⟨by simp,rfl,fun i hi=>(k4 i hi).imp_right fun q=>by
    obtain ⟨o,p,q1,q2⟩:=za1 q
    exact ⟨o,p,q2,.inl q1⟩⟩,(fun hp _=>by cases hp),fun q=>by cases q⟩ m2,k3,m3⟩
  ·cases hp
 | .val _::_,[],_,_,hp | .own _::_,[],_,_,hp | .cl _::_,[],_,_,hp | .fp _::_,[],_,_,hp=>by simp [JP] at hp
theorem j4 {xs ys:List Nat}(h: ∀x∈xs, ∀y∈ys,x≠y):apart xs ys=true:=by
 simp only [apart,List.all_eq_true,Bool.not_eq_true',List.contains_eq_mem,decide_eq_false_iff_not];exact fun x hx hy=>h x hx x hy rfl
end
section
variable {S:Nat→Type} [Sg:Sig S] {ρ ρ':Rho} {H H':zf} {fr:Fr} {b N:Nat} {t:TS S} {s g:St} {pr:yn}
structure zld (s g:St) (ρ:Rho) (ks:List RK) (rs:List PR) (p:Flds S (rcs ks)) (hs os:List Nat) (d:D) (xs:List D) (hd rd:List Nat):Prop where
 res:jQ s rs=some d
 tp:jP d=tpR ks
 e:QP s.hp (qq d)=some (xs,hd,rd)
 nd:zP hd=true
 ap:apart hd rd=true
 x:Zi ks p xs
 ids: ∀id∈hd,(dead g.hp id∧ks.filter YD ≠ []) ∨ ∃o∈hs,ρ o []=some (some id)
 rds: ∀i∈rd,dead g.hp i ∨ ∃o p,ρ o p=some (some i)∧(os.contains o=false∨p ≠ [])
theorem zdW {ks:List RK}(h:okR (S:=S) ks=true):ks.filter YD= [] ∨ ∃k,ks.filter YD= [k]∧ks.all (plR (S:=S))=true:=by
 unfold okR at h;split at h
 ·exact .inl (by assumption)
 ·rename_i k hk;exact .inr ⟨k,hk,h⟩
 ·cases h
theorem za0 {H:zf}{id:Nat}{sz:Nat}{es:List (List D)}(h:hat H id= .row sz es true)(k:dead H id):False:=by
 obtain ⟨_,_,k⟩:=k
 rw [h] at k
 cases k
theorem zc0 (h:zc fr b N ρ t g)(hg:GhK s g){x:List Nat}{ks:List RK}{rs:List PR}{p:Flds S (rcs ks)}(hp:zet x ks rs t=some p): ∃d xs hd rd,zld s g ρ ks rs p (jF t ks rs) (x++jF t ks rs) d xs hd rd:=by
 unfold zet at hp;split at hp
 ·rename_i hc;simp only [Bool.and_eq_true] at hc;obtain ⟨hn,hk⟩:=hc
  have h':=h.clear (P:=inP (x++jF t ks rs)) (fun o p q=>q)
  obtain ⟨ds,xs,hd,rd,k1,k2,k3⟩:=Qg h h' hg hn hp
  have live: ∀ {o p i},ρ o p=some (some i)→dead g.hp i→False:=fun e k=>by
   obtain ⟨_,sz,es,q⟩:=h.liv _ _ _ e
   exact za0 q k
  obtain ⟨c1,c2,c3,c4⟩:zP hd=true∧apart hd rd=true∧(∀id∈hd,(dead g.hp id∧ks.filter YD ≠ []) ∨ ∃o∈jF t ks rs,ρ o []=some (some id))∧ ∀i∈rd,dead g.hp i ∨ ∃o p,ρ o p=some (some i)∧((x++jF t ks rs).contains o=false∨p ≠ []):=by
   rcases zdW hk with e | ⟨k,e,e2⟩
   ·obtain ⟨a1,a2,a3⟩:=k2.no e
    refine ⟨a2,j4 fun i hi j hj e=> ?_,fun id hid=> .inr (a1 id hid),a3⟩
    subst e;obtain ⟨o,o1,o2⟩:=a1 i hi
    rcases a3 i hj with q | ⟨o',p',q1,q2⟩
    ·exact live o2 q
    ·obtain ⟨rfl,rfl⟩:=h.inj _ _ _ _ _ o2 q1
     rcases q2 with q2 | q2
     ·simp [o1] at q2
     ·exact q2 rfl
   ·obtain ⟨a1,a2,a3,a4⟩:=k2.cl e2 k e
    refine ⟨a1,?_,fun id hid=> .inl ⟨a3 id hid,by rw [e];simp⟩,fun i hi=> .inl (a4 i hi)⟩
    rcases a2 with rfl | rfl
    ·rfl
    ·exact j4 fun _ _ _ hj=>nomatch hj
  have fin: ∀d,qq d=ds→jP d=tpR ks→jQ s rs=some d→ ∃d xs hd rd,zld s g ρ ks rs p (jF t ks rs) (x++jF t ks rs) d xs hd rd:=fun d q1 q2 q3=>
   ⟨d,xs,hd,rd,q3,q2,by rw [q1];exact k2.e,c1,c2,k3,c3,c4⟩
  have hs:=Qa hg k1
  have hl:=k2.len
  match ks,ds,hs,hl,k2 with
  | [],[],hs,hl,k2=>exact fin (.tup []) rfl rfl (by simp only [jQ,hs,Option.map_some])
  | [_],[d],hs,hl,k2=>
   have hnt:=k2.tp d (by simp)
   exact fin d (by cases d<;>first | rfl | cases hnt) hnt (by simp only [jQ,hs,Option.map_some])
  | _::_::_,d::d2::ds,hs,hl,k2=>exact fin (.tup (d::d2::ds)) rfl rfl (by simp only [jQ,hs,Option.map_some])
 ·cases hp
def zdn {α:Type}:Nat→List α→List (Nat×α)
 | _,[]=> []
 | i,v::vs=>(i,v)::zdn (i+1) vs
theorem VI {α:Type}: ∀ {vs:List α} {i j:Nat} {v:α},look (zdn i vs) j=some v→ ∃k,j=i+k∧vs[k]? = some v
 | [],_,_,_,h=>nomatch h
 | w::vs,i,j,v,h=>by
  simp only [zdn,look] at h;split at h
  ·rename_i e
   cases h;exact ⟨0,(Nat.eq_of_beq_eq_true e).symm,rfl⟩
  ·obtain ⟨k,h1,h2⟩:=VI h
   exact ⟨k+1,by omega,by simpa using h2⟩
def t0 (vs:List (Val S)):TS S:=⟨zdn 0 vs,[],1,[],false⟩
def fr0:Fr:=⟨fun _=>none,fun _=>0⟩
theorem sl0 {vs:List (Val S)}{ds:List D}{ρ:Rho}{H:zf}{k i:Nat}{v:Val S}(h:zg (VS ρ H) vs ds)(hv:look (zdn 0 vs) i=some v):VS ρ H v ((ds++List.replicate k D.undef).getD i .undef):=by
 obtain ⟨j,e,hj⟩:=VI hv
 rw [Nat.zero_add] at e;subst e;have hl:=h.len
 have hi:=(List.getElem?_eq_some_iff.1 hj).1
 obtain ⟨d,h1,h2⟩:=h.get hj
 rw [List.getD_eq_getElem?_getD,List.getElem?_append_left (by omega),h1];exact h2
theorem zc.t0 {vs:List (Val S)}{ds:List D}(hN:ds.length≤N)(h:zg (VS yQ []) vs ds):zc fr0 0 N yQ (Pi.t0 vs) ⟨ds++List.replicate (N-ds.length) D.undef,[]⟩:=
 ⟨by simp;omega,fun i v hv=>sl0 h hv,fun o ob ho=>(by cases ho),fun _ _ _ _ _ e=>(by cases e),fun _ _ _ e=>(by cases e),fun _ _ _=>rfl,fun _ _ e=>(by cases e),List.nodup_nil,fun _ hr=>nomatch hr⟩
def zpE (ks:List RK)(rs:List PR)(ex:Ex)(t:TS S):Option (Flds S (rcs ks)):=match ex with
 | .exit _=>none
 | _=>zet [] ks rs t
def zin (Γ:List (zQ S pr))(N k:Nat)(c:AC)(ps:List PK)(ks:List RK)(rs:List PR)(p:Flds S (pcs ps)):Option (Flds S (rcs ks)):=run Γ N k c (t0 (YH ps p)) (zpE ks rs)
theorem j9: ∀ {ps:List PK} {p:Flds S (pcs ps)},(YH ps p).length=ps.length
 | [],_=>rfl
 | .val _::ps,p=>congrArg (· + 1) (j9 (ps:=ps) (p:=p.2))
 | .ptr _::ps,p=>congrArg (· + 1) (j9 (ps:=ps) (p:=p.2))
 | .fn _::ps,p=>congrArg (· + 1) (j9 (ps:=ps) (p:=p))
theorem FOk.of {f:Nat}{pf:PF}{Γ:List (zQ S pr)}{k:Nat}{c:AC}{ps:List PK}{ks:List RK}(hf:pr f=some pf)(ho:pf.orc=none)(hb:pf.body=c.er)(hN:Nat.ble ps.length pf.ntmps=true) :
  FOk pr f ps ks (zin Γ pf.ntmps k c ps ks pf.results):=by
 intro p r hr ds hds;refine ZL.body hf ho ?_
 have hl:=hds.len
 rw [j9] at hl;have hN:=Nat.le_of_ble_eq_true hN
 rw [hb];refine (qY c hr (zc.t0 (by omega) hds)).mono ?_
 rintro ex s ⟨t',k1,g,ρ,k2,k3⟩
 have key:zet [] ks pf.results t'=some r→ ∃d,jQ s pf.results=some d∧jP d=tpR ks∧ ∃xs hs rd,QP s.hp (qq d)=some (xs,hs,rd)∧zP hs=true∧apart hs rd=true∧Zi ks r xs:=fun q=>by
  obtain ⟨d,xs,hd,rd,o⟩:=zc0 k3 k2 q
  exact ⟨d,o.res,o.tp,xs,hd,rd,o.e,o.nd,o.ap,o.x⟩
 cases ex with
 | exit i=>cases k1
 | normal=>exact ⟨fun _ e=>(by cases e),key k1⟩
 | ret=>exact ⟨fun _ e=>(by cases e),key k1⟩
def tL (c:Code)(a:T S c)(vs:List (Val S)):TS S:=⟨zdn 0 (.ptr 0 [] 0 0::vs),[(0,.box (some 0) [.one 1 c a])],1,[],false⟩
def ziQ (c:Code)(ks:List RK)(rs:List PR)(ex:Ex)(t:TS S):Option (T S c×Flds S (rcs ks)):=match ex with
 | .exit _=>none
 | _=>match look t.hp 0 with
  | some (.box (some n) vs)=>(match mk 11 c vs,zet [0] ks rs t,ks.all (fun k => !YD k) && !(jF t ks rs).contains 0 with
   | some a,some p,true=>some (a,p)
   | _,_,_=>none)
  | _=>none
def zil (Γ:List (zQ S pr))(N k:Nat)(cd:AC)(c:Code)(ps:List PK)(ks:List RK)(rs:List PR)(p:T S c×Flds S (pcs ps)):Option (T S c×Flds S (rcs ks)):=run Γ N k cd (tL c p.1 (YH ps p.2)) (ziQ c ks rs)
def zgA:Rho:=fun o p=>match o,p with
 | 0,[]=>some (some 0)
 | _,_=>none
theorem Yr {o:Nat}{p:List Nat}{x:Option Nat}(h:zgA o p=some x):o=0∧p= []∧x=some 0:=by
 unfold zgA at h;split at h
 ·cases h;exact ⟨rfl,rfl,rfl⟩
 ·cases h
theorem zc.tL {c:Code}{a:T S c}{cs:List D}{vs:List (Val S)}{ds:List D}(hW:0<W (S:=S) c)(hN:ds.length+1≤N)(hc:zg (Cl [] 1) (en c a) cs)(h:zg (VS yQ []) vs ds) :
  zc fr0 0 N zgA (Pi.tL c a vs) ⟨(D.ptr 0 0::ds)++List.replicate (N-(ds.length+1)) D.undef,[.row (W (S:=S) c) [cs] true]⟩:=by
 refine ⟨by simp;omega,fun i v hv=>sl0 (vs:= .ptr 0 [] 0 0::vs) ⟨?_,h.mono fun _ _ _ q=>q.fromNo⟩ hv,fun o ob ho=> ?_,fun o p o' p' _ e1 e2=> ?_,fun o p id e=> ?_,fun o p ho=> ?_,fun _ _ e=>(by cases e),List.nodup_nil,fun _ hr=>nomatch hr⟩
 ·exact ⟨0,_,[cs],rfl,rfl,hW,by simp⟩
 ·simp only [Pi.tL,look] at ho;split at ho
  ·rename_i e
   cases ho;obtain rfl:=Nat.eq_of_beq_eq_true e
   exact ⟨0,cs,rfl,by simp [yr,YG,hat],VCs.single (qb (HLe.nil _) hc),rfl⟩
  ·cases ho
 ·obtain ⟨rfl,rfl,_⟩:=Yr e1
  obtain ⟨rfl,rfl,_⟩:=Yr e2
  exact ⟨rfl,rfl⟩
 ·obtain ⟨rfl,rfl,e⟩:=Yr e
  cases e;exact ⟨rfl,_,_,rfl⟩
 ·cases e:zgA o p with
  | none=>rfl
  | some x=>
   obtain ⟨rfl,_⟩:=Yr e
   exact absurd ho (by simp [Pi.tL])
theorem LOk.of {f:Nat}{pf:PF}{Γ:List (zQ S pr)}{k:Nat}{cd:AC}{c:Code}{ps:List PK}{ks:List RK}(hf:pr f=some pf)(ho:pf.orc=none)(hb:pf.body=cd.er)(hN:Nat.ble (ps.length+1) pf.ntmps=true)(hW:Nat.blt 0 (W (S:=S) c)=true) :
  LOk pr f c ps ks (zil Γ pf.ntmps k cd c ps ks pf.results):=by
 intro p r hr cs ds hcs hds;refine ZL.body hf ho ?_
 have hl:=hds.len
 rw [j9] at hl;have hN:=Nat.le_of_ble_eq_true hN
 rw [hb];have hW:0<W (S:=S) c:=by simpa using hW
 refine (qY cd hr (zc.tL hW (by omega) hcs hds)).mono ?_
 rintro ex s ⟨t',k1,g,ρ,k2,k3⟩
 have key:ziQ c ks pf.results .normal t'=some r→ ∃d,jQ s pf.results=some d∧jP d=tpR ks∧ ∃xs hs rd cs2 ry,QP s.hp (qq d)=some (xs,hs,rd)∧zP hs=true∧apart hs rd=true∧Zi ks r.2 xs ∧
  ZJ s.hp 0 [(0,true)]=some ([(0,.row (W (S:=S) c) [cs2] true)],ry)∧zg (Cl [] 1) (en c r.1) cs2∧apart hs ry=true∧apart hs [0]=true∧apart [0] rd=true∧apart [0] ry=true:=fun q=>by
  simp only [ziQ] at q;split at q
  ·rename_i n vs hb;split at q
   ·rename_i a p' ha hp' hc
    cases q;simp only [Bool.and_eq_true,Bool.not_eq_true'] at hc;obtain ⟨hc1,hc2⟩:=hc
    obtain ⟨d,xs,hd,rd,o⟩:=zc0 k3 k2 hp'
    obtain ⟨id,dc,b1,b2,b3,b4⟩:=k3.hp _ _ hb
    have b4:id=0:=b4
    subst b4;have hmk:=Jq (by decide) ha b3
    have hw:yr vs=W (S:=S) c:=by rw [←b3.len,←hmk.len,yT]
    rw [hw] at b2;obtain ⟨z,z1,z2,z3⟩:=Ya (P:=fun _=>False) (Nat.le_refl 11) hmk
    have z3: ∀i∈z.2,dead g.hp i:=fun i hi=>(z3 i hi).elim (fun q=>q) fun q=>q.elim
    have zE:(yf (frz ya) [dc]).run g.hp=some ([z.1],z.2):=by
     have:(yf (frz 11) [dc]).run g.hp=some ([z.1],z.2):=by simp [yf,ze,z1,Eff.run]
     exact Qz (by decide) this
    have zs:=(jT k2.hp zE).1
    have b2s:hat s.hp 0= .row (W (S:=S) c) [dc] true:=by
     rcases k2.hp.2 0 with q | ⟨_,_,_,q⟩ | ⟨_,_,_,_,q⟩
     ·rw [←q];exact b2
     ·rw [b2] at q;cases q
     ·rw [b2] at q;cases q
    have nocl:ks.filter YD= []:=by
     rw [List.filter_eq_nil_iff];intro k hk;have:=List.all_eq_true.1 hc1 k hk
     simpa using this
    have live: ∀ {o p i},ρ o p=some (some i)→dead g.hp i→False:=fun e k=>by
     obtain ⟨_,sz,es,q⟩:=k3.liv _ _ _ e
     exact za0 q k
    have hids: ∀i∈hd, ∃q∈jF t' ks pf.results,ρ q []=some (some i):=fun i hi=>by
     rcases o.ids i hi with ⟨_,q⟩ | q
     ·exact absurd nocl q
     ·exact q
    refine ⟨d,o.res,o.tp,xs,hd,rd,z.1,z.2,o.e,o.nd,o.ap,o.x,?_,ZR z2,?_,?_,?_,?_⟩
    ·simp only [ZJ,b2s,zs,Option.bind_some,List.append_nil]
    ·refine j4 fun i hi j hj e=> ?_
     subst e;obtain ⟨q,_,q2⟩:=hids i hi
     exact live q2 (z3 i hj)
    ·refine j4 fun i hi j hj e=> ?_
     subst e;simp only [List.mem_singleton] at hj;subst hj;obtain ⟨q,q1,q2⟩:=hids 0 hi
     obtain ⟨rfl,_⟩:=k3.inj _ _ _ _ _ q2 b1
     simp [q1] at hc2
    ·refine j4 fun i hi j hj e=> ?_
     subst e;simp only [List.mem_singleton] at hi;subst hi;rcases o.rds 0 hj with q | ⟨o',p'',q1,q2⟩
     ·exact live b1 q
     ·obtain ⟨rfl,rfl⟩:=k3.inj _ _ _ _ _ q1 b1
      rcases q2 with q2 | q2
      ·simp at q2
      ·exact q2 rfl
    ·refine j4 fun i hi j hj e=> ?_
     subst e;simp only [List.mem_singleton] at hi;subst hi;exact live b1 (z3 0 hj)
   ·cases q
  ·cases q
 cases ex with
 | exit i=>cases k1
 | normal=>exact ⟨fun _ e=>(by cases e),key k1⟩
 | ret=>exact ⟨fun _ e=>(by cases e),key k1⟩
end
def ZD (o:PO):PO:=⟨o.dst,o.op,o.guard,[],o.res⟩
def yJ:PC→PC
 | .region false k ops=> .region false k (ops.map ZD)
 | .seq a b=> .seq (yJ a) (yJ b)
 | .cond c x y=> .cond c (yJ x) (yJ y)
 | .block id c=> .block id (yJ c)
 | .loop c=> .loop (yJ c)
 | c=>c
def Jn (f:PF):PF:=⟨f.ntmps,f.results,yJ f.body,f.orc⟩
theorem Vy {c:zy}{b:Nat}: ∀ {ops:List PO} {s:St},jW c b (ops.map ZD) s=jW c b ops s
 | [],_=>rfl
 | o::ops,s=>by
  have e:zD c b (ZD o) s=zD c b o s:=rfl
  simp only [List.map_cons,jW,e];congr 1
  funext s'
  exact Vy
theorem qH {c:zy}{n:Nat}: ∀ {q:PC} {s:St},code c n (yJ q) s=code c n q s
 | .skip,_=>rfl
 | .ret,_=>rfl
 | .exit _,_=>rfl
 | .region false k ops,s=>by simp only [yJ,code,Bool.false_eq_true,if_false,Vy]
 | .region true k ops,s=>rfl
 | .seq a b,s=>by
  simp only [yJ,code,qH (q:=a)];split
  ·exact qH
  ·rfl
 | .cond q x y,s=>by simp only [yJ,code,qH (q:=x),qH (q:=y)]
 | .block id q,s=>by simp only [yJ,code,qH (q:=q)]
 | .loop q,s=>by
  simp only [yJ,code];congr 1
  funext s
  exact qH
theorem Vz {P P':yn}(hp: ∀f,P' f=(P f).map Jn): ∀n,runN P' n=runN P n
 | 0=>rfl
 | n+1=>by
  funext f a H
  simp only [runN,hp,Vz hp n]
  cases P f with
  | none=>rfl
  | some pf=>
   simp only [Option.map_some,Jn]
   cases pf.orc with
   | some g=>rfl
   | none=>simp only [qH]
theorem ZL.slim {P P':yn}(hp: ∀f,P' f=(P f).map Jn){f:Nat}{a:List D}{H:zf}{Q:D→zf→Prop}(h:ZL P' f a H Q):ZL P f a H Q:=by
 obtain ⟨n,d,H',h1,h2⟩:=h
 exact ⟨n,d,H',by rw [←Vz hp n];exact h1,h2⟩
end Go.Pi
