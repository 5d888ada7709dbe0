import Derived.Test.YtmfccopfmddllaaGreatLA
set_option linter.all false
namespace Go.Pi
set_option linter.unusedVariables false
structure Ent (S:Nat→Type) [Sg:Sig S] (pr:yn) where
 f:Nat
 ps:List PK
 rs:List RK
 F:Flds S (pcs ps)→Option (Flds S (rcs rs))
 ok:FOk pr f ps rs F
structure zlf (S:Nat→Type) [Sg:Sig S] (pr:yn) where
 f:Nat
 c:Code
 ps:List PK
 rs:List RK
 F:T S c×Flds S (pcs ps)→Option (T S c×Flds S (rcs rs))
 ok:LOk pr f c ps rs F
inductive zQ (S:Nat→Type) [Sg:Sig S] (pr:yn) where
 | plain (e:Ent S pr)
 | lent (e:zlf S pr)
 | heap (e:ziY S pr)
section
variable {S:Nat→Type} [Sg:Sig S] {ρ ρ':Rho} {H H':zf} {fr:Fr} {b N:Nat} {t:TS S} {s g:St} {α:Type} {pr:yn}
def zQ.num:zQ S pr→Nat
 | .plain e=>e.f
 | .lent e=>e.f
 | .heap e=>e.f
def Y4:List (zQ S pr)→Nat→Option (zQ S pr)
 | [],_=>none
 | e::es,f=>match Nat.beq e.num f with
  | true=>some e
  | false=>Y4 es f
theorem yS: ∀ {Γ:List (zQ S pr)} {f:Nat} {e:zQ S pr},Y4 Γ f=some e→e.num=f
 | [],_,_,h=>nomatch h
 | e::es,f,e',h=>by
  simp only [Y4] at h;split at h
  ·rename_i q
   cases h;exact Nat.eq_of_beq_eq_true q
  ·exact yS h
def op1 (dst:Option Nat)(res:Nat)(cd:Code)(op:POp)(t:TS S)(K:TS S→Option α):Option α:=match yK t op with
 | some v=>K (t.putD dst v)
 | none=>match op with
  | .pick c x y=>Ua dst c x y t K
  | .bin o x y=>zcl dst o x y t K
  | .alloc z=>J4 dst res z t K
  | .box n x=>zeM dst res n x t K
  | .buildSlice sz n z ps=>(match cd with
   | .own e=>(match ps with
    | [(0,.c .nil)]=>Qq dst res e sz n z ps t K
    | _=>Qs dst res sz n z ps t K)
   | _=>Qr dst res cd sz n z ps t K)
  | .makeSlice sz by' z l c=>Ub dst res cd sz by' z l c t K
  | .load ag n x=>(match evK t x with
   | some (.pa _ _ _ _)=>J2 dst ag n x t K
   | _=>Uc dst ag n x t K)
  | .store n a x=>(match dst with
   | none=>(match evK t a,zW cd with
    | some (.pa _ _ _ _),_=>Qn n a x t K
    | _,true=>XL n a x t K
    | _,false=>J0 n a x t K)
   | some _=>none)
  | .indexAddr sz x i=>J3 dst sz x i t K
  | .indexAddrA sz len x i=>Ue dst sz len x i t K
  | .index ag sz len x i=>Ud dst ag sz len x i t K
  | .indexS x i=>Qp dst x i t K
  | .len x=>zck dst x t K
  | .eqNS neg x=>zbG dst neg x t K
  | .slice sz x lo hi=>J1 dst sz x lo hi t K
  | .sliceS x lo hi=>Qo dst x lo hi t K
  | .conv c x=>zbI dst c x t K
  | .append sz by' x y=>(match zW cd with
   | true=>Za dst res sz by' x y t K
   | false=>Z4 dst res cd sz by' x y t K)
  | .mark x=>zbH dst x t K
  | .bits x=>Uf dst x t K
  | _=>none
theorem zjw (h:zc fr b N ρ t g){dst:Option Nat}(hd:yk N dst=true){res:Nat}{cd:Code}{op:POp}{K:TS S→Option α}{r:α}(hr:op1 dst res cd op t K=some r):Got fr b N g op res dst (fun t'=>K t'=some r):=by
 unfold op1 at hr;split at hr
 ·rename_i v hv;intro call;obtain ⟨d,k1,k2⟩:=zay h hv call (b+res)
  exact ⟨⟨d,[],[]⟩,ρ,_,k1,h.putD hd k2,hr⟩
 ·split at hr
  ·exact (VA h hd hr).got
  ·exact (zaD h hd hr).got
  ·exact (X4 h hd hr).got
  ·exact (zf3 h hd hr).got
  ·split at hr
   ·split at hr
    ·exact zbc h hd hr
    ·exact zbd h hd hr
   ·exact (JB h hd hr).got
  ·exact (VB h hd hr).got
  ·split at hr
   ·exact (X2 h hd hr).got
   ·exact (VD h hd hr).got
  ·split at hr
   ·split at hr
    ·exact (Jy h hr).got
    ·exact zbb h hr
    ·exact (XZ h hr).got
   ·cases hr
  ·exact (X3 h hd hr).got
  ·exact (VF h hd hr).got
  ·exact (VE h hd hr).got
  ·exact (JA h hd hr).got
  ·exact (zaC h hd hr).got
  ·exact (zdS h hd hr).got
  ·exact (X0 h hd hr).got
  ·exact (Jz h hd hr).got
  ·exact (zdV h hd hr).got
  ·split at hr
   ·exact U3 h hd hr
   ·exact zbe h hd hr
  ·exact zdT h hd hr
  ·exact (VG h hd hr).got
  ·cases hr
def zcv (e:Ent S pr)(dst:Option Nat)(res:Nat)(args:List (Nat×PX))(t:TS S)(K:TS S→Option α):Option α:=match qu t (keeps (S:=S) e.rs) e.ps args with
 | some p=>(e.F p).bind fun r=>match jX e.rs r res t with
  | some q=>K (q.2.putD dst (VX e.rs q.1))
  | none=>none
 | none=>none
def Ux (e:zlf S pr)(dst:Option Nat)(res:Nat)(args:List (Nat×PX))(t:TS S)(K:TS S→Option α):Option α:=match args with
 | []=>none
 | (m,x)::as=>(match Nat.beq m 2,evK t x,qu t false e.ps as with
  | true,some (.ptr o p i j),some q=>(match p,Nat.beq i 0&&Nat.beq j 0,look t.hp o with
   | [],true,some (.box pn vs)=>(match mk 11 e.c vs with
    | some a=>(e.F (a,q)).bind fun r=>(match jX e.rs r.2 res (t.setO o (.box pn [.one 1 e.c r.1])) with
     | some w=>K (w.2.putD dst (VX e.rs w.1))
     | none=>none)
    | none=>none)
   | _,_,_=>none)
  | _,_,_=>none)
def zak (Γ:List (zQ S pr))(f:Nat)(dst:Option Nat)(res:Nat)(args:List (Nat×PX))(t:TS S)(K:TS S→Option α):Option α:=match Y4 Γ f with
 | some (.plain e)=>zcv e dst res args t K
 | some (.lent e)=>Ux e dst res args t K
 | _=>none
def YU (Γ:List (zQ S pr))(N:Nat)(dst:Option Nat)(f:Nat)(args:List PX)(C:HC)(t:TS S)(K:TS S→Option α):Option α:=match Y4 Γ f with
 | some (.heap e)=>zbT e C N dst args t K
 | _=>none
def Uw (Γ:List (zQ S pr))(f:Nat)(dst:Option Nat)(res:Nat)(args:List (Nat×PX))(t:TS S)(K:TS S→Option α):Option α:=match Y4 Γ f with
 | some (.plain e)=>(match e.rs.all VW&&keeps (S:=S) e.rs with
  | true=>zcv e dst res args t K
  | false=>none)
 | _=>none
def stepT (Γ:List (zQ S pr))(N:Nat)(dst:Option Nat)(res:Nat)(cd:Code)(op:POp)(t:TS S)(K:TS S→Option α):Option α:=match yk N dst with
 | false=>none
 | true=>match op with
  | .call f args=>zak Γ f dst res args t K
  | .callQ f args=>Uw Γ f dst res args t K
  | .callV fs x args=>(match evK t x with
   | some (.fn f)=>(match fs.contains f with
    | true=>Uw Γ f dst res args t K
    | false=>none)
   | _=>none)
  | op=>op1 dst res cd op t K
theorem Rel.of (h:zc fr b N ρ t g):Rel fr b N t g:=⟨g,ρ,GhK.refl g,h⟩
theorem Rel.gh (h:GhK s g)(k:Rel fr b N t g):Rel fr b N t s:=by
 obtain ⟨g',ρ,h1,h2⟩:=k
 exact ⟨g',ρ,h.trans h1,h2⟩
theorem Ql {call:zy}{dst:Option Nat}{op:POp}{gu:Option (Nat×Bool)}{aft:List Nat}{res:Nat}{out:Out}(hg:zN g.ts gu=true)(hw:zu g.ts gu=true)(h:(opE call (PX.ev g.ts) (b+res) op).run g.hp=some out) :
  zD call b ⟨dst,op,gu,aft,res⟩ g=some ⟨yh g.ts dst out.d,out.on g.hp⟩:=by
 unfold zD;simp only [hg,hw,if_true];split
 ·simp [opE,Eff.run] at h
 ·simp only [h,Option.map_some]
theorem Xz {dst:Option Nat}{o:Out}{g':St}(h:GhK ⟨g.ts,o.on g.hp⟩ g'):GhK ⟨yh g.ts dst o.d,o.on g.hp⟩ ⟨yh g'.ts dst o.d,g'.hp⟩:=⟨by rw [show g.ts=g'.ts from h.ts],h.hp⟩
theorem za4 (h:zc fr b N ρ t g){e:Ent S pr}{dst:Option Nat}(hd:yk N dst=true){res:Nat}{args:List (Nat×PX)}{K:TS S→Option α}{r:α}(hr:zcv e dst res args t K=some r) :
  ∃n o,(zX (runN pr n) (b+res) e.f (args.map fun p=>(p.1,p.2.ev g.ts))).run g.hp=some o∧(∃t',K t'=some r∧Rel fr b N t' ⟨yh g.ts dst o.d,o.on g.hp⟩)∧((e.rs.all VW&&keeps (S:=S) e.rs)=true→o.ws= []∧o.fz= []):=by
 unfold zcv at hr;split at hr
 ·rename_i p hp;simp only [Option.bind_eq_some_iff] at hr;obtain ⟨v,hv,hr⟩:=hr
  split at hr
  ·rename_i q hq;obtain ⟨n,o,g',ρ',k1,k2,k3,k4,k5⟩:=zhD h e.ok hp hv hq
   exact ⟨n,o,k1,⟨_,hr,_,ρ',Xz k2,k3.putD hd k4⟩,k5⟩
  ·cases hr
 ·cases hr
theorem zgi (h:zc fr b N ρ t g){Γ:List (zQ S pr)}{f:Nat}{dst:Option Nat}(hd:yk N dst=true){res:Nat}{args:List (Nat×PX)}{K:TS S→Option α}{r:α}(hr:zak Γ f dst res args t K=some r) :
  ∃n o,(zX (runN pr n) (b+res) f (args.map fun p=>(p.1,p.2.ev g.ts))).run g.hp=some o∧ ∃t',K t'=some r∧Rel fr b N t' ⟨yh g.ts dst o.d,o.on g.hp⟩:=by
 unfold zak at hr;split at hr
 ·rename_i e he;obtain ⟨n,o,k1,k2,_⟩:=za4 h hd hr
  rw [show e.f=f from yS he] at k1;exact ⟨n,o,k1,k2⟩
 ·rename_i e he;unfold Ux at hr;split at hr
  ·cases hr
  ·rename_i m x as;split at hr
   ·rename_i o p i j q hm hx hq;split at hr
    ·rename_i vs hij ho;simp only [Bool.and_eq_true] at hij;obtain rfl:=Nat.eq_of_beq_eq_true hij.1
     obtain rfl:=Nat.eq_of_beq_eq_true hij.2
     obtain rfl:=Nat.eq_of_beq_eq_true hm
     split at hr
     ·rename_i a ha;simp only [Option.bind_eq_some_iff] at hr;obtain ⟨v,hv,hr⟩:=hr
      split at hr
      ·rename_i w hw;obtain ⟨n,out,g',ρ',k1,k2,k3,k4⟩:=zhk h e.ok hx ho ha hq hv hw
       rw [show e.f=f from yS he] at k1;exact ⟨n,out,k1,_,hr,_,ρ',Xz k2,k3.putD hd k4⟩
      ·cases hr
     ·cases hr
    ·cases hr
   ·cases hr
 ·cases hr
theorem VT (h:zc fr b N ρ t g){Γ:List (zQ S pr)}{f:Nat}{dst:Option Nat}(hd:yk N dst=true){res:Nat}{args:List (Nat×PX)}{K:TS S→Option α}{r:α}(hr:Uw Γ f dst res args t K=some r) :
  ∃n o,(zX (runN pr n) (b+res) f (args.map fun p=>(p.1,p.2.ev g.ts))).run g.hp=some o∧o.ws= []∧o.fz= []∧ ∃t',K t'=some r∧Rel fr b N t' ⟨yh g.ts dst o.d,o.on g.hp⟩:=by
 unfold Uw at hr;split at hr
 ·rename_i e he;split at hr
  ·rename_i hc;obtain ⟨n,o,k1,k2,k3⟩:=za4 h hd hr
   rw [show e.f=f from yS he] at k1;exact ⟨n,o,k1,(k3 hc).1,(k3 hc).2,k2⟩
  ·cases hr
 ·cases hr
theorem Z0 (h:zc fr b N ρ t g){Γ:List (zQ S pr)}{dst:Option Nat}{res:Nat}{cd:Code}{op:POp}{gu:Option (Nat×Bool)}{aft:List Nat}{K:TS S→Option α}{r:α}(hg:zN g.ts gu=true)(hw:zu g.ts gu=true)(hr:stepT Γ N dst res cd op t K=some r) :
  ∃n g1,zD (runN pr n) b ⟨dst,op,gu,aft,res⟩ g=some g1∧ ∃t',K t'=some r∧Rel fr b N t' g1:=by
 unfold stepT at hr;split at hr
 ·cases hr
 ·rename_i hd;split at hr
  ·obtain ⟨n,o,k1,k2⟩:=zgi h hd hr
   exact ⟨n,_,Ql hg hw k1,k2⟩
  ·obtain ⟨n,o,k1,k2,k3,k4⟩:=VT h hd hr
   refine ⟨n,_,Ql hg hw (out:=o) ?_,k4⟩
   simp only [opE,ze,k1,Option.bind_some,k2,k3,List.isEmpty_nil,Bool.and_self,if_true,Eff.run]
  ·split at hr
   ·rename_i f hx;split at hr
    ·rename_i hf;obtain ⟨n,o,k1,k2,k3,k4⟩:=VT h hd hr
     refine ⟨n,_,Ql hg hw (out:=o) ?_,k4⟩
     have e:PX.ev g.ts _= .fn f:=h.ev hx
     simp only [opE,e,hf,if_true,ze,k1,Option.bind_some,k2,k3,List.isEmpty_nil,Bool.and_self,Eff.run]
    ·cases hr
   ·cases hr
  ·obtain ⟨out,ρ',t',k1,k2,k3⟩:=zjw h hd hr (runN pr 0)
   exact ⟨0,_,Ql hg hw k1,t',k3,Rel.of k2⟩
inductive AO where
 | o (dst:Option Nat) (op:POp) (res:Nat) (cd:Code)
 | g (dst:Option Nat) (op:POp) (gt:Nat) (gb:Bool) (res:Nat) (cd:Code)
 | fz (i:Nat)
 | fzA (i j:Nat)
 | h (dst:Option Nat) (f:Nat) (args:List PX) (C:HC) (res:Nat)
 | hg (dst:Option Nat) (f:Nat) (args:List PX) (gt:Nat) (gb:Bool) (C:HC) (res:Nat)
 | un (i:Nat)
 | fzN (i j:Nat)
 | fzB (i j:Nat)
 | n3 (a:Nat) (e:Code) (sz bytes:Nat) (x y:PX) (r1 d:Nat) (u i:PX) (r2 r3:Nat)
def AO.er:List AO→List PO
 | []=> []
 | .o dst op res _::os=>⟨dst,op,none,[],res⟩::AO.er os
 | .g dst op gt gb res _::os=>⟨dst,op,some (gt,gb),[],res⟩::AO.er os
 | .fz _::os=>AO.er os
 | .fzA _ _::os=>AO.er os
 | .un _::os=>AO.er os
 | .fzN _ _::os=>AO.er os
 | .fzB _ _::os=>AO.er os
 | .h dst f args _ res::os=>⟨dst,.callH f args,none,[],res⟩::AO.er os
 | .hg dst f args gt gb _ res::os=>⟨dst,.callH f args,some (gt,gb),[],res⟩::AO.er os
 | .n3 a _ sz bytes x y r1 d u i r2 r3::os=>⟨some a,.append sz bytes x y,none,[],r1⟩::⟨some d,.indexAddr 1 u i,none,[],r2⟩::⟨none,.store 1 (.t d) (.t a),none,[],r3⟩::AO.er os
def gOp (Γ:List (zQ S pr))(N:Nat)(dst:Option Nat)(op:POp)(gt:Nat)(gb:Bool)(res:Nat)(cd:Code)(t:TS S)(K:TS S→Option α):Option α:=match look t.sl gt with
 | some .skip=>(match yk N dst with
  | true=>K (t.putD dst .skip)
  | false=>none)
 | some (.one _ .bool v)=>(match Nat.blt gt N&&yk N dst with
  | true=>cond v (match gb with
    | true=>stepT Γ N dst res cd op (t.put gt (yR true)) K
    | false=>K ((t.put gt (yR true)).putD dst .skip))
   (match gb with
    | true=>K ((t.put gt (yR false)).putD dst .skip)
    | false=>stepT Γ N dst res cd op (t.put gt (yR false)) K)
  | false=>none)
 | _=>none
def gH (Γ:List (zQ S pr))(N:Nat)(dst:Option Nat)(f:Nat)(args:List PX)(gt:Nat)(gb:Bool)(C:HC)(t:TS S)(K:TS S→Option α):Option α:=match look t.sl gt with
 | some .skip=>(match yk N dst with
  | true=>K (t.putD dst .skip)
  | false=>none)
 | some (.one _ .bool v)=>(match Nat.blt gt N&&yk N dst with
  | true=>cond v (match gb with
    | true=>YU Γ N dst f args C (t.put gt (yR true)) K
    | false=>K ((t.put gt (yR true)).putD dst .skip))
   (match gb with
    | true=>K ((t.put gt (yR false)).putD dst .skip)
    | false=>YU Γ N dst f args C (t.put gt (yR false)) K)
  | false=>none)
 | _=>none
def yO (Γ:List (zQ S pr))(N:Nat):List AO→TS S→(TS S→Option α)→Option α
 | [],t,K=>K t
 | .o dst op res cd::os,t,K=>stepT Γ N dst res cd op t fun t=>yO Γ N os t K
 | .g dst op gt gb res cd::os,t,K=>gOp Γ N dst op gt gb res cd t fun t=>yO Γ N os t K
 | .fz i::os,t,K=>(match look t.sl i with
  | some (.whole o _)=>(match t.freeze o with
   | some t=>yO Γ N os t K
   | none=>none)
  | some (.win o _ _ _)=>(match t.freeze o with
   | some t=>yO Γ N os t K
   | none=>none)
  | some _=>yO Γ N os t K
  | none=>none)
 | .fzA i j::os,t,K=>(match look t.sl i with
  | some (.agg vs)=>(match vs[j]? with
   | some (.whole o _)=>(match t.freeze o with
    | some t=>yO Γ N os t K
    | none=>none)
   | some _=>yO Γ N os t K
   | none=>none)
  | some _=>yO Γ N os t K
  | none=>none)
 | .fzB i j::os,t,K=>(match look t.sl i with
  | some (.ptr q _ _ _)=>(match look t.hp q with
   | some (.box _ vs)=>(match vs[j]? with
    | some (.whole o _)=>(match t.freeze o with
     | some t=>yO Γ N os t K
     | none=>none)
    | some _=>yO Γ N os t K
    | none=>none)
   | _=>none)
  | _=>none)
 | .fzN i j::os,t,K=>(match look t.sl i with
  | some (.ptr q _ _ _)=>(match look t.hp q with
   | some (.box _ vs)=>(match vs[j]? with
    | some (.whole o _)=>(match t.freezeN o with
     | some t=>yO Γ N os t K
     | none=>none)
    | _=>none)
   | _=>none)
  | some (.whole o _)=>(match t.freezeN o with
   | some t=>yO Γ N os t K
   | none=>none)
  | _=>none)
 | .un i::os,t,K=>(match Nat.blt i N,look t.sl i with
  | true,some (.whole o p)=>rowOf t o p fun n e l=>yO Γ N os (((t.forget o).addAt o (.row n e l)).put i (.whole o [])) K
  | _,_=>none)
 | .h dst f args C res::os,t,K=>YU Γ N dst f args C t fun t=>yO Γ N os t K
 | .hg dst f args gt gb C res::os,t,K=>gH Γ N dst f args gt gb C t fun t=>yO Γ N os t K
 | .n3 a e sz bytes x y r1 d u i r2 r3::os,t,K=>ziA N a e sz bytes x y r1 d u i t fun t=>yO Γ N os t K
theorem Steps.gh {os:List PO}{Q:St→Prop}(h:GhK s g)(k:Steps pr b os g Q):Steps pr b os s (fun s'=> ∃g',GhK s' g'∧Q g'):=by
 obtain ⟨n,g',k1,k2⟩:=k
 obtain ⟨s',k3,k4⟩:=UH (Y9 pr n) h k1
 exact ⟨n,s',k3,g',k4,k2⟩
theorem Qm {i:Nat}{d:D}{ts:List D}(hi:i<ts.length)(h:ts.getD i .undef=d):ts.set i d=ts:=by
 refine List.ext_getElem? fun j=> ?_
 rw [List.getElem?_set];split
 ·rename_i e;subst e;rw [←h,List.getD_eq_getElem?_getD,List.getElem?_eq_getElem hi];rfl
 ·rfl
theorem zfK {call:zy}{dst:Option Nat}{op:POp}{gu:Option (Nat×Bool)}{res:Nat}(hg:zN g.ts gu=true)(hw:zu g.ts gu=true):zD call b ⟨dst,op,gu,[],res⟩ g=zD call b ⟨dst,op,none,[],res⟩ g:=by
 unfold zD;rw [if_pos hg,if_pos hw,if_pos (show zN g.ts none=true from rfl),if_pos (show zu g.ts none=true from rfl)]
theorem Steps.app {l m:List PO}{s:St}{Q:St→Prop}(h:Steps pr b l s (fun s1=>Steps pr b m s1 Q)):Steps pr b (l++m) s Q:=by
 obtain ⟨n,s1,h1,k,s2,h2,h3⟩:=h
 induction l generalizing s n with
 | nil=>
  cases h1;exact ⟨k,s2,h2,h3⟩
 | cons o os ih=>
  simp only [jW,Option.bind_eq_some_iff] at h1;obtain ⟨s3,h4,h5⟩:=h1
  exact Steps.cons h4 (ih n h5)
theorem yz {Γ:List (zQ S pr)}: ∀ {os:List AO} {t:TS S} {g:St} {ρ:Rho} {K:TS S→Option α} {r:α},yO Γ N os t K=some r→zc fr b N ρ t g→Steps pr b (AO.er os) g (fun s'=> ∃t',K t'=some r∧Rel fr b N t' s')
 | [],t,g,ρ,K,r,hr,h=>Steps.nil ⟨t,hr,Rel.of h⟩
 | .o dst op res cd::os,t,g,ρ,K,r,hr,h=>by
  obtain ⟨n,g1,k1,t',k2,g2,ρ2,k3,k4⟩:=Z0 (aft:= []) h (gu:=none) rfl rfl hr
  refine Steps.cons k1 ?_
  refine Steps.mono (Steps.gh k3 (yz k2 k4)) ?_
  rintro s' ⟨g',q1,t2,q2,q3⟩
  exact ⟨t2,q2,q3.gh q1⟩
 | .g dst op gt gb res cd::os,t,g,ρ,K,r,hr,h=>by
  have hr:gOp Γ N dst op gt gb res cd t (fun t=>yO Γ N os t K)=some r:=hr
  have go: ∀ {t1:TS S} {g1:St} {n:Nat},zD (runN pr n) b ⟨dst,op,some (gt,gb),[],res⟩ g=some g1→Rel fr b N t1 g1→yO Γ N os t1 K=some r→Steps pr b (AO.er (.g dst op gt gb res cd::os)) g (fun s'=> ∃t',K t'=some r∧Rel fr b N t' s'):=by
   rintro t1 g1 n k1 ⟨g2,ρ2,k3,k4⟩ k2
   refine Steps.cons k1 ?_
   refine Steps.mono (Steps.gh k3 (yz k2 k4)) ?_
   rintro s' ⟨g',q1,t2,q2,q3⟩
   exact ⟨t2,q2,q3.gh q1⟩
  unfold gOp at hr;split at hr
  ·rename_i hs;split at hr
   ·rename_i hd;have e:g.ts.getD gt .undef= .skip:=h.sl _ _ hs
    refine go (n:=0) (g1:=⟨yh g.ts dst .skip,g.hp⟩) ?_ (Rel.of (h.putD hd (show VS ρ g.hp .skip .skip from rfl))) hr
    simp only [zD,zN,e,zu,if_true,Bool.false_eq_true,if_false]
   ·cases hr
  ·rename_i m v hs;split at hr
   ·rename_i hc;simp only [Bool.and_eq_true] at hc;have hi:gt<N:=by simpa using hc.1
    have e:g.ts.getD gt .undef= .bool v:=(show Cl g.hp m (.bool v) _ from (h.sl _ _ hs).1).sc rfl
    have hput: ∀w:Bool,v=w→zc fr b N ρ (t.put gt (yR w)) g:=fun w hw=>by
     subst hw;have:=h.put hi (qc (S:=S) (ρ:=ρ) (H:=g.hp) v)
     rw [Qm (by rw [h.len];exact hi) e] at this
     exact this
    have hok:zN g.ts (some (gt,gb))=true:=by simp only [zN,e]
    cases v with
    | true=>
     simp only [cond_true] at hr
     cases gb with
     | true=>
      obtain ⟨n,g1,k1,t',k2,k3⟩:=Z0 (aft:= []) (hput true rfl) hok (by simp only [zu,e];rfl) hr
      exact go k1 k3 k2
     | false=>
      refine go (n:=0) (g1:=⟨yh g.ts dst .skip,g.hp⟩) ?_ (Rel.of ((hput true rfl).putD hc.2 (show VS ρ g.hp .skip .skip from rfl))) hr
      simp only [zD,hok,zu,e,if_true];rfl
    | false=>
     simp only [cond_false] at hr
     cases gb with
     | true=>
      refine go (n:=0) (g1:=⟨yh g.ts dst .skip,g.hp⟩) ?_ (Rel.of ((hput false rfl).putD hc.2 (show VS ρ g.hp .skip .skip from rfl))) hr
      simp only [zD,hok,zu,e,if_true];rfl
     | false=>
      obtain ⟨n,g1,k1,t',k2,k3⟩:=Z0 (aft:= []) (hput false rfl) hok (by simp only [zu,e];rfl) hr
      exact go k1 k3 k2
   ·cases hr
  ·cases hr
 | .fz i::os,t,g,ρ,K,r,hr,h=>by
  simp only [yO] at hr;have go: ∀ {o:Nat} {t1:TS S},t.freeze o=some t1→yO Γ N os t1 K=some r→Steps pr b (AO.er (.fz i::os)) g (fun s'=> ∃t',K t'=some r∧Rel fr b N t' s'):=by
   intro o t1 ht k2;obtain ⟨g2,k3,k4⟩:=h.shut ht
   refine Steps.mono (Steps.gh k3 (yz (os:=os) k2 k4)) ?_
   rintro s' ⟨g',q1,t2,q2,q3⟩
   exact ⟨t2,q2,q3.gh q1⟩
  split at hr
  ·split at hr
   ·exact go (by assumption) hr
   ·cases hr
  ·split at hr
   ·exact go (by assumption) hr
   ·cases hr
  ·exact yz (os:=os) hr h
  ·cases hr
 | .fzA i j::os,t,g,ρ,K,r,hr,h=>by
  simp only [yO] at hr;have go: ∀ {o:Nat} {t1:TS S},t.freeze o=some t1→yO Γ N os t1 K=some r→Steps pr b (AO.er (.fzA i j::os)) g (fun s'=> ∃t',K t'=some r∧Rel fr b N t' s'):=by
   intro o t1 ht k2;obtain ⟨g2,k3,k4⟩:=h.shut ht
   refine Steps.mono (Steps.gh k3 (yz (os:=os) k2 k4)) ?_
   rintro s' ⟨g',q1,t2,q2,q3⟩
   exact ⟨t2,q2,q3.gh q1⟩
  split at hr
  ·split at hr
   ·split at hr
    ·exact go (by assumption) hr
    ·cases hr
   ·exact yz (os:=os) hr h
   ·cases hr
  ·exact yz (os:=os) hr h
  ·cases hr
 | .fzB i j::os,t,g,ρ,K,r,hr,h=>by
  simp only [yO] at hr;have go: ∀ {o:Nat} {t1:TS S},t.freeze o=some t1→yO Γ N os t1 K=some r→Steps pr b (AO.er (.fzB i j::os)) g (fun s'=> ∃t',K t'=some r∧Rel fr b N t' s'):=by
   intro o t1 ht k2;obtain ⟨g2,k3,k4⟩:=h.shut ht
   refine Steps.mono (Steps.gh k3 (yz (os:=os) k2 k4)) ?_
   rintro s' ⟨g',q1,t2,q2,q3⟩
   exact ⟨t2,q2,q3.gh q1⟩
  split at hr
  ·split at hr
   ·split at hr
    ·split at hr
     ·exact go (by assumption) hr
     ·cases hr
    ·exact yz (os:=os) hr h
    ·cases hr
   ·cases hr
  ·cases hr
 | .fzN i j::os,t,g,ρ,K,r,hr,h=>by
  simp only [yO] at hr;have go: ∀ {o:Nat} {t1:TS S},t.freezeN o=some t1→yO Γ N os t1 K=some r→Steps pr b (AO.er (.fzN i j::os)) g (fun s'=> ∃t',K t'=some r∧Rel fr b N t' s'):=by
   intro o t1 ht k2;obtain ⟨g2,ρ2,k3,k4⟩:=h.shutN ht
   refine Steps.mono (Steps.gh k3 (yz (os:=os) k2 k4)) ?_
   rintro s' ⟨g',q1,t2,q2,q3⟩
   exact ⟨t2,q2,q3.gh q1⟩
  split at hr
  ·split at hr
   ·split at hr
    ·split at hr
     ·exact go (by assumption) hr
     ·cases hr
    ·cases hr
   ·cases hr
  ·split at hr
   ·exact go (by assumption) hr
   ·cases hr
  ·cases hr
 | .un i::os,t,g,ρ,K,r,hr,h=>by
  simp only [yO] at hr;split at hr
  ·rename_i o p hi hs;have hi':i<N:=by simpa using hi
   obtain ⟨n,e,l,k1,k2⟩:=h.rowOf hr
   have r1:=h.unnest (o:=o) (p:=p) (ob:= .row n e l) (x:=none) (fun p'=>ρ o (p++p')) (fun _ _ h=>h) (fun ρ' _ h2=>k2.ext (HLe.refl _) (fun p' x hx=>by rw [h2];exact hx) (fun _ _ _=>rfl))
   have r2:VS (S:=S) (ins (del ρ o) o fun p'=>ρ o (p++p')) g.hp (.whole o []) (g.ts.getD i .undef):=by
    rcases h.sl _ _ hs with ⟨id,sz,es,q1,q2,q3⟩ | ⟨q1,q2⟩
    ·exact .inl ⟨id,sz,es,by rw [zF,List.append_nil];exact q1,q2,q3⟩
    ·exact .inr ⟨by rw [zF,List.append_nil];exact q1,q2⟩
   have r3:=r1.put hi' r2
   rw [Qm (by rw [h.len];exact hi') rfl] at r3
   exact yz (os:=os) k1 r3
  ·cases hr
 | .h dst f args C res::os,t,g,ρ,K,r,hr,h=>by
  have hr:YU Γ N dst f args C t (fun t=>yO Γ N os t K)=some r:=hr
  unfold YU at hr;split at hr
  ·rename_i e he;obtain ⟨n,g1,k1,t',g2,ρ2,k2,k3,k4⟩:=VU (res:=res) h hr
   rw [show e.f=f from yS he] at k1;refine Steps.cons k1 ?_
   refine Steps.mono (Steps.gh k3 (yz k2 k4)) ?_
   rintro s' ⟨g',q1,t2,q2,q3⟩
   exact ⟨t2,q2,q3.gh q1⟩
  ·cases hr
 | .hg dst f args gt gb C res::os,t,g,ρ,K,r,hr,h=>by
  have hr:gH Γ N dst f args gt gb C t (fun t=>yO Γ N os t K)=some r:=hr
  have go: ∀ {t1:TS S} {g1:St} {n:Nat},zD (runN pr n) b ⟨dst,.callH f args,some (gt,gb),[],res⟩ g=some g1→Rel fr b N t1 g1→yO Γ N os t1 K=some r→Steps pr b (AO.er (.hg dst f args gt gb C res::os)) g (fun s'=> ∃t',K t'=some r∧Rel fr b N t' s'):=by
   rintro t1 g1 n k1 ⟨g2,ρ2,k3,k4⟩ k2
   refine Steps.cons k1 ?_
   refine Steps.mono (Steps.gh k3 (yz k2 k4)) ?_
   rintro s' ⟨g',q1,t2,q2,q3⟩
   exact ⟨t2,q2,q3.gh q1⟩
  have doit: ∀ {t1:TS S},zc fr b N ρ t1 g→zN g.ts (some (gt,gb))=true→zu g.ts (some (gt,gb))=true→YU Γ N dst f args C t1 (fun t=>yO Γ N os t K)=some r→Steps pr b (AO.er (.hg dst f args gt gb C res::os)) g (fun s'=> ∃t',K t'=some r∧Rel fr b N t' s'):=by
   intro t1 h1 hg hw hr;unfold YU at hr;split at hr
   ·rename_i e he;obtain ⟨n,g1,k1,t',g2,ρ2,k2,k3,k4⟩:=VU (res:=res) h1 hr
    rw [show e.f=f from yS he,←zfK hg hw] at k1;exact go k1 ⟨g2,ρ2,k3,k4⟩ k2
   ·cases hr
  unfold gH at hr;split at hr
  ·rename_i hs;split at hr
   ·rename_i hd;have e:g.ts.getD gt .undef= .skip:=h.sl _ _ hs
    refine go (n:=0) (g1:=⟨yh g.ts dst .skip,g.hp⟩) ?_ (Rel.of (h.putD hd (show VS ρ g.hp .skip .skip from rfl))) hr
    simp only [zD,zN,e,zu,if_true,Bool.false_eq_true,if_false]
   ·cases hr
  ·rename_i m v hs;split at hr
   ·rename_i hc;simp only [Bool.and_eq_true] at hc;have hi:gt<N:=by simpa using hc.1
    have e:g.ts.getD gt .undef= .bool v:=(show Cl g.hp m (.bool v) _ from (h.sl _ _ hs).1).sc rfl
    have hput: ∀w:Bool,v=w→zc fr b N ρ (t.put gt (yR w)) g:=fun w hw=>by
     subst hw;have:=h.put hi (qc (S:=S) (ρ:=ρ) (H:=g.hp) v)
     rw [Qm (by rw [h.len];exact hi) e] at this
     exact this
    have hok:zN g.ts (some (gt,gb))=true:=by simp only [zN,e]
    cases v with
    | true=>
     simp only [cond_true] at hr
     cases gb with
     | true=>exact doit (hput true rfl) hok (by simp only [zu,e];rfl) hr
     | false=>
      refine go (n:=0) (g1:=⟨yh g.ts dst .skip,g.hp⟩) ?_ (Rel.of ((hput true rfl).putD hc.2 (show VS ρ g.hp .skip .skip from rfl))) hr
      simp only [zD,hok,zu,e,if_true];rfl
    | false=>
     simp only [cond_false] at hr
     cases gb with
     | true=>
      refine go (n:=0) (g1:=⟨yh g.ts dst .skip,g.hp⟩) ?_ (Rel.of ((hput false rfl).putD hc.2 (show VS ρ g.hp .skip .skip from rfl))) hr
      simp only [zD,hok,zu,e,if_true];rfl
     | false=>exact doit (hput false rfl) hok (by simp only [zu,e];rfl) hr
   ·cases hr
  ·cases hr
 | .n3 a e sz bytes x y r1 d u i r2 r3::os,t,g,ρ,K,r,hr,h=>by
  refine Steps.app (l:= [_,_,_]) (Steps.mono (zhg (K:=fun t=>yO Γ N os t K) h hr) ?_)
  rintro s1 ⟨t1,ρ1,k1,k2⟩
  exact yz (os:=os) k1 k2
end
end Go.Pi
