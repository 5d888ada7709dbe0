import Derived.Test.YtmfccopfmddllaaGreatLA
set_option linter.all false
namespace Go.Pi
set_option linter.unusedVariables false
structure Ent (S:Nat→Type) [Sg:Sig S] (pr:yE) where
 f:Nat
 ps:List PK
 rs:List RK
 F:Flds S (pcs ps)→Option (Flds S (rcs rs))
 ok:FOk pr f ps rs F
structure zlV (S:Nat→Type) [Sg:Sig S] (pr:yE) where
 f:Nat
 c:ze
 ps:List PK
 rs:List RK
 F:T S c×Flds S (pcs ps)→Option (T S c×Flds S (rcs rs))
 ok:LOk pr f c ps rs F
inductive yf (S:Nat→Type) [Sg:Sig S] (pr:yE) where
 | plain (e:Ent S pr)
 | lent (e:zlV S pr)
 | heap (e:zjD S pr)
section
variable {S:Nat→Type} [Sg:Sig S] {ρ ρ':Rho} {H H':zg} {fr:Fr} {b N:Nat} {t:TS S} {s g:St} {α:Type} {pr:yE}
def yf.num:yf S pr→Nat
 | .plain e=>e.f
 | .lent e=>e.f
 | .heap e=>e.f
def QA:List (yf S pr)→Nat→Option (yf S pr)
 | [],_=>none
 | e::es,f=>match Nat.beq e.num f with
  | true=>some e
  | false=>QA es f
theorem qj: ∀ {Γ:List (yf S pr)} {f:Nat} {e:yf S pr},QA Γ f=some e→e.num=f
 | [],_,_,h=>nomatch h
 | e::es,f,e',h=>by
  simp only [QA] at h;split at h
  ·rename_i q
   cases h;exact Nat.eq_of_beq_eq_true q
  ·exact qj h
def op1 (dst:Option Nat)(res:Nat)(cd:ze)(op:POp)(t:TS S)(K:TS S→Option α):Option α:=match y9 t op with
 | some v=>K (t.putD dst v)
 | none=>match op with
  | .pick c x y=>UL dst c x y t K
  | .bin o x y=>zcX dst o x y t K
  | .alloc z=>XD dst res z t K
  | .box n x=>zfr dst res n x t K
  | .buildSlice sz n z ps=>(match cd with
   | .own e=>(match ps with
    | [(0,.c .nil)]=>QX dst res e sz n z ps t K
    | _=>QZ dst res sz n z ps t K)
   | _=>QY dst res cd sz n z ps t K)
  | .makeSlice sz by' z l c=>UM dst res cd sz by' z l c t K
  | .load ag n x=>(match evK t x with
   | some (.pa _ _ _ _)=>XB dst ag n x t K
   | _=>UN dst ag n x t K)
  | .store n a x=>(match dst with
   | none=>(match evK t a,yy cd with
    | some (.pa _ _ _ _),_=>QU n a x t K
    | _,true=>Vk n a x t K
    | _,false=>Xz n a x t K)
   | some _=>none)
  | .indexAddr sz x i=>XC dst sz x i t K
  | .indexAddrA sz len x i=>UP dst sz len x i t K
  | .index ag sz len x i=>UO dst ag sz len x i t K
  | .indexS x i=>QW dst x i t K
  | .len x=>zcW dst x t K
  | .eqNS neg x=>zci dst neg x t K
  | .slice sz x lo hi=>XA dst sz x lo hi t K
  | .sliceS x lo hi=>QV dst x lo hi t K
  | .conv c x=>zck dst c x t K
  | .append sz by' x y=>(match yy cd with
   | true=>ZC dst res sz by' x y t K
   | false=>Yx dst res cd sz by' x y t K)
  | .mark x=>zcj dst x t K
  | .bits x=>UQ dst x t K
  | _=>none
theorem zkd (h:zc fr b N ρ t g){dst:Option Nat}(hd:yB N dst=true){res:Nat}{cd:ze}{op:POp}{K:TS S→Option α}{r:α}(hr:op1 dst res cd op t K=some r):Got fr b N g op res dst (fun t'=>K t'=some r):=by
 unfold op1 at hr;split at hr
 ·rename_i v hv;intro call;obtain ⟨d,k1,k2⟩:=za9 h hv call (b+res)
  exact ⟨⟨d,[],[]⟩,ρ,_,k1,h.putD hd k2,hr⟩
 ·split at hr
  ·exact (Ue h hd hr).got
  ·exact (zbe h hd hr).got
  ·exact (VE h hd hr).got
  ·exact (zgI h hd hr).got
  ·split at hr
   ·split at hr
    ·exact zbN h hd hr
    ·exact zbO h hd hr
   ·exact (J7 h hd hr).got
  ·exact (Uf h hd hr).got
  ·split at hr
   ·exact (VB h hd hr).got
   ·exact (Ug h hd hr).got
  ·split at hr
   ·split at hr
    ·exact (J4 h hr).got
    ·exact zbM h hr
    ·exact (Vy h hr).got
   ·cases hr
  ·exact (VD h hd hr).got
  ·exact (Ui h hd hr).got
  ·exact (Uh h hd hr).got
  ·exact (J6 h hd hr).got
  ·exact (zbd h hd hr).got
  ·exact (zev h hd hr).got
  ·exact (Vz h hd hr).got
  ·exact (J5 h hd hr).got
  ·exact (zey h hd hr).got
  ·split at hr
   ·exact zaE h hd hr
   ·exact zbP h hd hr
  ·exact zew h hd hr
  ·exact (Uj h hd hr).got
  ·cases hr
def zc7 (e:Ent S pr)(dst:Option Nat)(res:Nat)(args:List (Nat×PX))(t:TS S)(K:TS S→Option α):Option α:=match qS t (j4 (S:=S) e.rs) e.ps args with
 | some p=>(e.F p).bind fun r=>match Zn e.rs r res t with
  | some q=>K (q.2.putD dst (UA e.rs q.1))
  | none=>none
 | none=>none
def U8 (e:zlV S pr)(dst:Option Nat)(res:Nat)(args:List (Nat×PX))(t:TS S)(K:TS S→Option α):Option α:=match args with
 | []=>none
 | (m,x)::as=>(match Nat.beq m 2,evK t x,qS t false e.ps as with
  | true,some (.ptr o p i j),some q=>(match p,Nat.beq i 0&&Nat.beq j 0,zq t.hp o with
   | [],true,some (.box pn vs)=>(match mk 11 e.c vs with
    | some a=>(e.F (a,q)).bind fun r=>(match Zn e.rs r.2 res (t.setO o (.box pn [.one 1 e.c r.1])) with
     | some w=>K (w.2.putD dst (UA e.rs w.1))
     | none=>none)
    | none=>none)
   | _,_,_=>none)
  | _,_,_=>none)
def zaV (Γ:List (yf S pr))(f:Nat)(dst:Option Nat)(res:Nat)(args:List (Nat×PX))(t:TS S)(K:TS S→Option α):Option α:=match QA Γ f with
 | some (.plain e)=>zc7 e dst res args t K
 | some (.lent e)=>U8 e dst res args t K
 | _=>none
def Qq (Γ:List (yf S pr))(N:Nat)(dst:Option Nat)(f:Nat)(args:List PX)(C:HC)(t:TS S)(K:TS S→Option α):Option α:=match QA Γ f with
 | some (.heap e)=>zcv e C N dst args t K
 | _=>none
def U7 (Γ:List (yf S pr))(f:Nat)(dst:Option Nat)(res:Nat)(args:List (Nat×PX))(t:TS S)(K:TS S→Option α):Option α:=match QA Γ f with
 | some (.plain e)=>(match e.rs.all Uz&&j4 (S:=S) e.rs with
  | true=>zc7 e dst res args t K
  | false=>none)
 | _=>none
def j3 (Γ:List (yf S pr))(N:Nat)(dst:Option Nat)(res:Nat)(cd:ze)(op:POp)(t:TS S)(K:TS S→Option α):Option α:=match yB N dst with
 | false=>none
 | true=>match op with
  | .call f args=>zaV Γ f dst res args t K
  | .callQ f args=>U7 Γ f dst res args t K
  | .callV fs x args=>(match evK t x with
   | some (.fn f)=>(match fs.contains f with
    | true=>U7 Γ f dst res args t K
    | false=>none)
   | _=>none)
  | op=>op1 dst res cd op t K
theorem Rel.of (h:zc fr b N ρ t g):Rel fr b N t g:=⟨g,ρ,GhK.refl g,h⟩
theorem Rel.gh (h:GhK s g)(k:Rel fr b N t g):Rel fr b N t s:=by
 obtain ⟨g',ρ,h1,h2⟩:=k
 exact ⟨g',ρ,h.trans h1,h2⟩
theorem QR {call:zG}{dst:Option Nat}{op:POp}{gu:Option (Nat×Bool)}{aft:List Nat}{res:Nat}{out:Out}(hg:zZ g.ts gu=true)(hw:zB g.ts gu=true)(h:(opE call (PX.ev g.ts) (b+res) op).run g.hp=some out) :
  zL call b ⟨dst,op,gu,aft,res⟩ g=some ⟨yx g.ts dst out.d,out.on g.hp⟩:=by
 unfold zL;simp only [hg,hw,if_true];split
 ·simp [opE,Eff.run] at h
 ·simp only [h,Option.map_some]
theorem X8 {dst:Option Nat}{o:Out}{g':St}(h:GhK ⟨g.ts,o.on g.hp⟩ g'):GhK ⟨yx g.ts dst o.d,o.on g.hp⟩ ⟨yx g'.ts dst o.d,g'.hp⟩:=⟨by rw [show g.ts=g'.ts from h.ts],h.hp⟩
theorem zbF (h:zc fr b N ρ t g){e:Ent S pr}{dst:Option Nat}(hd:yB N dst=true){res:Nat}{args:List (Nat×PX)}{K:TS S→Option α}{r:α}(hr:zc7 e dst res args t K=some r) :
  ∃n o,(yl (zP pr n) (b+res) e.f (args.map fun p=>(p.1,p.2.ev g.ts))).run g.hp=some o∧(∃t',K t'=some r∧Rel fr b N t' ⟨yx g.ts dst o.d,o.on g.hp⟩)∧((e.rs.all Uz&&j4 (S:=S) e.rs)=true→o.ws= []∧o.fz= []):=by
 unfold zc7 at hr;split at hr
 ·rename_i p hp;simp only [Option.bind_eq_some_iff] at hr;obtain ⟨v,hv,hr⟩:=hr
  split at hr
  ·rename_i q hq;obtain ⟨n,o,g',ρ',k1,k2,k3,k4,k5⟩:=zii h e.ok hp hv hq
   exact ⟨n,o,k1,⟨_,hr,_,ρ',X8 k2,k3.putD hd k4⟩,k5⟩
  ·cases hr
 ·cases hr
theorem zgX (h:zc fr b N ρ t g){Γ:List (yf S pr)}{f:Nat}{dst:Option Nat}(hd:yB N dst=true){res:Nat}{args:List (Nat×PX)}{K:TS S→Option α}{r:α}(hr:zaV Γ f dst res args t K=some r) :
  ∃n o,(yl (zP pr n) (b+res) f (args.map fun p=>(p.1,p.2.ev g.ts))).run g.hp=some o∧ ∃t',K t'=some r∧Rel fr b N t' ⟨yx g.ts dst o.d,o.on g.hp⟩:=by
 unfold zaV at hr;split at hr
 ·rename_i e he;obtain ⟨n,o,k1,k2,_⟩:=zbF h hd hr
  rw [show e.f=f from qj he] at k1;exact ⟨n,o,k1,k2⟩
 ·rename_i e he;unfold U8 at hr;split at hr
  ·cases hr
  ·rename_i m x as;split at hr
   ·rename_i o p i j q hm hx hq;split at hr
    ·rename_i vs hij ho;simp only [Bool.and_eq_true] at hij;obtain rfl:=Nat.eq_of_beq_eq_true hij.1
     obtain rfl:=Nat.eq_of_beq_eq_true hij.2
     obtain rfl:=Nat.eq_of_beq_eq_true hm
     split at hr
     ·rename_i a ha;simp only [Option.bind_eq_some_iff] at hr;obtain ⟨v,hv,hr⟩:=hr
      split at hr
      ·rename_i w hw;obtain ⟨n,out,g',ρ',k1,k2,k3,k4⟩:=zhZ h e.ok hx ho ha hq hv hw
       rw [show e.f=f from qj he] at k1;exact ⟨n,out,k1,_,hr,_,ρ',X8 k2,k3.putD hd k4⟩
      ·cases hr
     ·cases hr
    ·cases hr
   ·cases hr
 ·cases hr
theorem Uw (h:zc fr b N ρ t g){Γ:List (yf S pr)}{f:Nat}{dst:Option Nat}(hd:yB N dst=true){res:Nat}{args:List (Nat×PX)}{K:TS S→Option α}{r:α}(hr:U7 Γ f dst res args t K=some r) :
  ∃n o,(yl (zP pr n) (b+res) f (args.map fun p=>(p.1,p.2.ev g.ts))).run g.hp=some o∧o.ws= []∧o.fz= []∧ ∃t',K t'=some r∧Rel fr b N t' ⟨yx g.ts dst o.d,o.on g.hp⟩:=by
 unfold U7 at hr;split at hr
 ·rename_i e he;split at hr
  ·rename_i hc;obtain ⟨n,o,k1,k2,k3⟩:=zbF h hd hr
   rw [show e.f=f from qj he] at k1;exact ⟨n,o,k1,(k3 hc).1,(k3 hc).2,k2⟩
  ·cases hr
 ·cases hr
theorem Ys (h:zc fr b N ρ t g){Γ:List (yf S pr)}{dst:Option Nat}{res:Nat}{cd:ze}{op:POp}{gu:Option (Nat×Bool)}{aft:List Nat}{K:TS S→Option α}{r:α}(hg:zZ g.ts gu=true)(hw:zB g.ts gu=true)(hr:j3 Γ N dst res cd op t K=some r) :
  ∃n g1,zL (zP pr n) b ⟨dst,op,gu,aft,res⟩ g=some g1∧ ∃t',K t'=some r∧Rel fr b N t' g1:=by
 unfold j3 at hr;split at hr
 ·cases hr
 ·rename_i hd;split at hr
  ·obtain ⟨n,o,k1,k2⟩:=zgX h hd hr
   exact ⟨n,_,QR hg hw k1,k2⟩
  ·obtain ⟨n,o,k1,k2,k3,k4⟩:=Uw h hd hr
   refine ⟨n,_,QR hg hw (out:=o) ?_,k4⟩
   simp only [opE,zf,k1,Option.bind_some,k2,k3,List.isEmpty_nil,Bool.and_self,if_true,Eff.run]
  ·split at hr
   ·rename_i f hx;split at hr
    ·rename_i hf;obtain ⟨n,o,k1,k2,k3,k4⟩:=Uw h hd hr
     refine ⟨n,_,QR hg hw (out:=o) ?_,k4⟩
     have e:PX.ev g.ts _= .fn f:=h.ev hx
     simp only [opE,e,hf,if_true,zf,k1,Option.bind_some,k2,k3,List.isEmpty_nil,Bool.and_self,Eff.run]
    ·cases hr
   ·cases hr
  ·obtain ⟨out,ρ',t',k1,k2,k3⟩:=zkd h hd hr (zP pr 0)
   exact ⟨0,_,QR hg hw k1,t',k3,Rel.of k2⟩
inductive AO where
 | o (dst:Option Nat) (op:POp) (res:Nat) (cd:ze)
 | g (dst:Option Nat) (op:POp) (gt:Nat) (gb:Bool) (res:Nat) (cd:ze)
 | fz (i:Nat)
 | fzA (i j:Nat)
 | h (dst:Option Nat) (f:Nat) (args:List PX) (C:HC) (res:Nat)
 | hg (dst:Option Nat) (f:Nat) (args:List PX) (gt:Nat) (gb:Bool) (C:HC) (res:Nat)
 | un (i:Nat)
 | fzN (i j:Nat)
 | fzB (i j:Nat)
 | n3 (a:Nat) (e:ze) (sz bytes:Nat) (x y:PX) (r1 d:Nat) (u i:PX) (r2 r3:Nat)
def AO.er:List AO→List PO
 | []=> []
 | .o dst op res _::os=>⟨dst,op,none,[],res⟩::AO.er os
 | .g dst op gt gb res _::os=>⟨dst,op,some (gt,gb),[],res⟩::AO.er os
 | .fz _::os=>AO.er os
 | .fzA _ _::os=>AO.er os
 | .un _::os=>AO.er os
 | .fzN _ _::os=>AO.er os
 | .fzB _ _::os=>AO.er os
 | .h dst f args _ res::os=>⟨dst,.callH f args,none,[],res⟩::AO.er os
 | .hg dst f args gt gb _ res::os=>⟨dst,.callH f args,some (gt,gb),[],res⟩::AO.er os
 | .n3 a _ sz bytes x y r1 d u i r2 r3::os=>⟨some a,.append sz bytes x y,none,[],r1⟩::⟨some d,.indexAddr 1 u i,none,[],r2⟩::⟨none,.store 1 (.t d) (.t a),none,[],r3⟩::AO.er os
def gOp (Γ:List (yf S pr))(N:Nat)(dst:Option Nat)(op:POp)(gt:Nat)(gb:Bool)(res:Nat)(cd:ze)(t:TS S)(K:TS S→Option α):Option α:=match zq t.sl gt with
 | some .skip=>(match yB N dst with
  | true=>K (t.putD dst .skip)
  | false=>none)
 | some (.one _ .bool v)=>(match Nat.blt gt N&&yB N dst with
  | true=>cond v (match gb with
    | true=>j3 Γ N dst res cd op (t.put gt (qi true)) K
    | false=>K ((t.put gt (qi true)).putD dst .skip))
   (match gb with
    | true=>K ((t.put gt (qi false)).putD dst .skip)
    | false=>j3 Γ N dst res cd op (t.put gt (qi false)) K)
  | false=>none)
 | _=>none
def gH (Γ:List (yf S pr))(N:Nat)(dst:Option Nat)(f:Nat)(args:List PX)(gt:Nat)(gb:Bool)(C:HC)(t:TS S)(K:TS S→Option α):Option α:=match zq t.sl gt with
 | some .skip=>(match yB N dst with
  | true=>K (t.putD dst .skip)
  | false=>none)
 | some (.one _ .bool v)=>(match Nat.blt gt N&&yB N dst with
  | true=>cond v (match gb with
    | true=>Qq Γ N dst f args C (t.put gt (qi true)) K
    | false=>K ((t.put gt (qi true)).putD dst .skip))
   (match gb with
    | true=>K ((t.put gt (qi false)).putD dst .skip)
    | false=>Qq Γ N dst f args C (t.put gt (qi false)) K)
  | false=>none)
 | _=>none
def qe (Γ:List (yf S pr))(N:Nat):List AO→TS S→(TS S→Option α)→Option α
 | [],t,K=>K t
 | .o dst op res cd::os,t,K=>j3 Γ N dst res cd op t fun t=>qe Γ N os t K
 | .g dst op gt gb res cd::os,t,K=>gOp Γ N dst op gt gb res cd t fun t=>qe Γ N os t K
 | .fz i::os,t,K=>(match zq t.sl i with
  | some (.whole o _)=>(match t.freeze o with
   | some t=>qe Γ N os t K
   | none=>none)
  | some (.win o _ _ _)=>(match t.freeze o with
   | some t=>qe Γ N os t K
   | none=>none)
  | some _=>qe Γ N os t K
  | none=>none)
 | .fzA i j::os,t,K=>(match zq t.sl i with
  | some (.agg vs)=>(match vs[j]? with
   | some (.whole o _)=>(match t.freeze o with
    | some t=>qe Γ N os t K
    | none=>none)
   | some _=>qe Γ N os t K
   | none=>none)
  | some _=>qe Γ N os t K
  | none=>none)
 | .fzB i j::os,t,K=>(match zq t.sl i with
  | some (.ptr q _ _ _)=>(match zq t.hp q with
   | some (.box _ vs)=>(match vs[j]? with
    | some (.whole o _)=>(match t.freeze o with
     | some t=>qe Γ N os t K
     | none=>none)
    | some _=>qe Γ N os t K
    | none=>none)
   | _=>none)
  | _=>none)
 | .fzN i j::os,t,K=>(match zq t.sl i with
  | some (.ptr q _ _ _)=>(match zq t.hp q with
   | some (.box _ vs)=>(match vs[j]? with
    | some (.whole o _)=>(match t.freezeN o with
     | some t=>qe Γ N os t K
     | none=>none)
    | _=>none)
   | _=>none)
  | some (.whole o _)=>(match t.freezeN o with
   | some t=>qe Γ N os t K
   | none=>none)
  | _=>none)
 | .un i::os,t,K=>(match Nat.blt i N,zq t.sl i with
  | true,some (.whole o p)=>Yh t o p fun n e l=>qe Γ N os (((t.forget o).addAt o (.row n e l)).put i (.whole o [])) K
  | _,_=>none)
 | .h dst f args C res::os,t,K=>Qq Γ N dst f args C t fun t=>qe Γ N os t K
 | .hg dst f args gt gb C res::os,t,K=>gH Γ N dst f args gt gb C t fun t=>qe Γ N os t K
 | .n3 a e sz bytes x y r1 d u i r2 r3::os,t,K=>zjf N a e sz bytes x y r1 d u i t fun t=>qe Γ N os t K
theorem zV.gh {os:List PO}{Q:St→Prop}(h:GhK s g)(k:zV pr b os g Q):zV pr b os s (fun s'=> ∃g',GhK s' g'∧Q g'):=by
 obtain ⟨n,g',k1,k2⟩:=k
 obtain ⟨s',k3,k4⟩:=zai (QF pr n) h k1
 exact ⟨n,s',k3,g',k4,k2⟩
theorem QS {i:Nat}{d:D}{ts:List D}(hi:i<ts.length)(h:ts.getD i .undef=d):ts.set i d=ts:=by
 refine List.ext_getElem? fun j=> ?_
 rw [List.getElem?_set];split
 ·rename_i e;subst e;rw [←h,List.getD_eq_getElem?_getD,List.getElem?_eq_getElem hi];rfl
 ·rfl
theorem zgp {call:zG}{dst:Option Nat}{op:POp}{gu:Option (Nat×Bool)}{res:Nat}(hg:zZ g.ts gu=true)(hw:zB g.ts gu=true):zL call b ⟨dst,op,gu,[],res⟩ g=zL call b ⟨dst,op,none,[],res⟩ g:=by
 unfold zL;rw [if_pos hg,if_pos hw,if_pos (show zZ g.ts none=true from rfl),if_pos (show zB g.ts none=true from rfl)]
theorem zV.app {l m:List PO}{s:St}{Q:St→Prop}(h:zV pr b l s (fun s1=>zV pr b m s1 Q)):zV pr b (l++m) s Q:=by
 obtain ⟨n,s1,h1,k,s2,h2,h3⟩:=h
 induction l generalizing s n with
 | nil=>
  cases h1;exact ⟨k,s2,h2,h3⟩
 | cons o os ih=>
  simp only [Zm,Option.bind_eq_some_iff] at h1;obtain ⟨s3,h4,h5⟩:=h1
  exact zV.cons h4 (ih n h5)
theorem yR {Γ:List (yf S pr)}: ∀ {os:List AO} {t:TS S} {g:St} {ρ:Rho} {K:TS S→Option α} {r:α},qe Γ N os t K=some r→zc fr b N ρ t g→zV pr b (AO.er os) g (fun s'=> ∃t',K t'=some r∧Rel fr b N t' s')
 | [],t,g,ρ,K,r,hr,h=>zV.nil ⟨t,hr,Rel.of h⟩
 | .o dst op res cd::os,t,g,ρ,K,r,hr,h=>by
  obtain ⟨n,g1,k1,t',k2,g2,ρ2,k3,k4⟩:=Ys (aft:= []) h (gu:=none) rfl rfl hr
  refine zV.cons k1 ?_
  refine zV.mono (zV.gh k3 (yR k2 k4)) ?_
  rintro s' ⟨g',q1,t2,q2,q3⟩
  exact ⟨t2,q2,q3.gh q1⟩
 | .g dst op gt gb res cd::os,t,g,ρ,K,r,hr,h=>by
  have hr:gOp Γ N dst op gt gb res cd t (fun t=>qe Γ N os t K)=some r:=hr
  have go: ∀ {t1:TS S} {g1:St} {n:Nat},zL (zP pr n) b ⟨dst,op,some (gt,gb),[],res⟩ g=some g1→Rel fr b N t1 g1→qe Γ N os t1 K=some r→zV pr b (AO.er (.g dst op gt gb res cd::os)) g (fun s'=> ∃t',K t'=some r∧Rel fr b N t' s'):=by
   rintro t1 g1 n k1 ⟨g2,ρ2,k3,k4⟩ k2
   refine zV.cons k1 ?_
   refine zV.mono (zV.gh k3 (yR k2 k4)) ?_
   rintro s' ⟨g',q1,t2,q2,q3⟩
   exact ⟨t2,q2,q3.gh q1⟩
  unfold gOp at hr;split at hr
  ·rename_i hs;split at hr
   ·rename_i hd;have e:g.ts.getD gt .undef= .skip:=h.sl _ _ hs
    refine go (n:=0) (g1:=⟨yx g.ts dst .skip,g.hp⟩) ?_ (Rel.of (h.putD hd (show VS ρ g.hp .skip .skip from rfl))) hr
    simp only [zL,zZ,e,zB,if_true,Bool.false_eq_true,if_false]
   ·cases hr
  ·rename_i m v hs;split at hr
   ·rename_i hc;simp only [Bool.and_eq_true] at hc;have hi:gt<N:=by simpa using hc.1
    have e:g.ts.getD gt .undef= .bool v:=(show Cl g.hp m (.bool v) _ from (h.sl _ _ hs).1).sc rfl
    have hput: ∀w:Bool,v=w→zc fr b N ρ (t.put gt (qi w)) g:=fun w hw=>by
     subst hw;have:=h.put hi (qz (S:=S) (ρ:=ρ) (H:=g.hp) v)
     rw [QS (by rw [h.len];exact hi) e] at this
     exact this
    have hok:zZ g.ts (some (gt,gb))=true:=by simp only [zZ,e]
    cases v with
    | true=>
     simp only [cond_true] at hr
     cases gb with
     | true=>
      obtain ⟨n,g1,k1,t',k2,k3⟩:=Ys (aft:= []) (hput true rfl) hok (by simp only [zB,e];rfl) hr
      exact go k1 k3 k2
     | false=>
      refine go (n:=0) (g1:=⟨yx g.ts dst .skip,g.hp⟩) ?_ (Rel.of ((hput true rfl).putD hc.2 (show VS ρ g.hp .skip .skip from rfl))) hr
      simp only [zL,hok,zB,e,if_true];rfl
    | false=>
     simp only [cond_false] at hr
     cases gb with
     | true=>
      refine go (n:=0) (g1:=⟨yx g.ts dst .skip,g.hp⟩) ?_ (Rel.of ((hput false rfl).putD hc.2 (show VS ρ g.hp .skip .skip from rfl))) hr
      simp only [zL,hok,zB,e,if_true];rfl
     | false=>
      obtain ⟨n,g1,k1,t',k2,k3⟩:=Ys (aft:= []) (hput false rfl) hok (by simp only [zB,e];rfl) hr
      exact go k1 k3 k2
   ·cases hr
  ·cases hr
 | .fz i::os,t,g,ρ,K,r,hr,h=>by
  simp only [qe] at hr;have go: ∀ {o:Nat} {t1:TS S},t.freeze o=some t1→qe Γ N os t1 K=some r→zV pr b (AO.er (.fz i::os)) g (fun s'=> ∃t',K t'=some r∧Rel fr b N t' s'):=by
   intro o t1 ht k2;obtain ⟨g2,k3,k4⟩:=h.shut ht
   refine zV.mono (zV.gh k3 (yR (os:=os) k2 k4)) ?_
   rintro s' ⟨g',q1,t2,q2,q3⟩
   exact ⟨t2,q2,q3.gh q1⟩
  split at hr
  ·split at hr
   ·exact go (by assumption) hr
   ·cases hr
  ·split at hr
   ·exact go (by assumption) hr
   ·cases hr
  ·exact yR (os:=os) hr h
  ·cases hr
 | .fzA i j::os,t,g,ρ,K,r,hr,h=>by
  simp only [qe] at hr;have go: ∀ {o:Nat} {t1:TS S},t.freeze o=some t1→qe Γ N os t1 K=some r→zV pr b (AO.er (.fzA i j::os)) g (fun s'=> ∃t',K t'=some r∧Rel fr b N t' s'):=by
   intro o t1 ht k2;obtain ⟨g2,k3,k4⟩:=h.shut ht
   refine zV.mono (zV.gh k3 (yR (os:=os) k2 k4)) ?_
   rintro s' ⟨g',q1,t2,q2,q3⟩
   exact ⟨t2,q2,q3.gh q1⟩
  split at hr
  ·split at hr
   ·split at hr
    ·exact go (by assumption) hr
    ·cases hr
   ·exact yR (os:=os) hr h
   ·cases hr
  ·exact yR (os:=os) hr h
  ·cases hr
 | .fzB i j::os,t,g,ρ,K,r,hr,h=>by
  simp only [qe] at hr;have go: ∀ {o:Nat} {t1:TS S},t.freeze o=some t1→qe Γ N os t1 K=some r→zV pr b (AO.er (.fzB i j::os)) g (fun s'=> ∃t',K t'=some r∧Rel fr b N t' s'):=by
   intro o t1 ht k2;obtain ⟨g2,k3,k4⟩:=h.shut ht
   refine zV.mono (zV.gh k3 (yR (os:=os) k2 k4)) ?_
   rintro s' ⟨g',q1,t2,q2,q3⟩
   exact ⟨t2,q2,q3.gh q1⟩
  split at hr
  ·split at hr
   ·split at hr
    ·split at hr
     ·exact go (by assumption) hr
     ·cases hr
    ·exact yR (os:=os) hr h
    ·cases hr
   ·cases hr
  ·cases hr
 | .fzN i j::os,t,g,ρ,K,r,hr,h=>by
  simp only [qe] at hr;have go: ∀ {o:Nat} {t1:TS S},t.freezeN o=some t1→qe Γ N os t1 K=some r→zV pr b (AO.er (.fzN i j::os)) g (fun s'=> ∃t',K t'=some r∧Rel fr b N t' s'):=by
   intro o t1 ht k2;obtain ⟨g2,ρ2,k3,k4⟩:=h.shutN ht
   refine zV.mono (zV.gh k3 (yR (os:=os) k2 k4)) ?_
   rintro s' ⟨g',q1,t2,q2,q3⟩
   exact ⟨t2,q2,q3.gh q1⟩
  split at hr
  ·split at hr
   ·split at hr
    ·split at hr
     ·exact go (by assumption) hr
     ·cases hr
    ·cases hr
   ·cases hr
  ·split at hr
   ·exact go (by assumption) hr
   ·cases hr
  ·cases hr
 | .un i::os,t,g,ρ,K,r,hr,h=>by
  simp only [qe] at hr;split at hr
  ·rename_i o p hi hs;have hi':i<N:=by simpa using hi
   obtain ⟨n,e,l,k1,k2⟩:=h.rowOf hr
   have r1:=h.unnest (o:=o) (p:=p) (ob:= .row n e l) (x:=none) (fun p'=>ρ o (p++p')) (fun _ _ h=>h) (fun ρ' _ h2=>k2.ext (HLe.refl _) (fun p' x hx=>by rw [h2];exact hx) (fun _ _ _=>rfl))
   have r2:VS (S:=S) (ins (del ρ o) o fun p'=>ρ o (p++p')) g.hp (.whole o []) (g.ts.getD i .undef):=by
    rcases h.sl _ _ hs with ⟨id,sz,es,q1,q2,q3⟩ | ⟨q1,q2⟩
    ·exact .inl ⟨id,sz,es,by rw [zN,List.append_nil];exact q1,q2,q3⟩
    ·exact .inr ⟨by rw [zN,List.append_nil];exact q1,q2⟩
   have r3:=r1.put hi' r2
   rw [QS (by rw [h.len];exact hi') rfl] at r3
   exact yR (os:=os) k1 r3
  ·cases hr
 | .h dst f args C res::os,t,g,ρ,K,r,hr,h=>by
  have hr:Qq Γ N dst f args C t (fun t=>qe Γ N os t K)=some r:=hr
  unfold Qq at hr;split at hr
  ·rename_i e he;obtain ⟨n,g1,k1,t',g2,ρ2,k2,k3,k4⟩:=Ux (res:=res) h hr
   rw [show e.f=f from qj he] at k1;refine zV.cons k1 ?_
   refine zV.mono (zV.gh k3 (yR k2 k4)) ?_
   rintro s' ⟨g',q1,t2,q2,q3⟩
   exact ⟨t2,q2,q3.gh q1⟩
  ·cases hr
 | .hg dst f args gt gb C res::os,t,g,ρ,K,r,hr,h=>by
  have hr:gH Γ N dst f args gt gb C t (fun t=>qe Γ N os t K)=some r:=hr
  have go: ∀ {t1:TS S} {g1:St} {n:Nat},zL (zP pr n) b ⟨dst,.callH f args,some (gt,gb),[],res⟩ g=some g1→Rel fr b N t1 g1→qe Γ N os t1 K=some r→zV pr b (AO.er (.hg dst f args gt gb C res::os)) g (fun s'=> ∃t',K t'=some r∧Rel fr b N t' s'):=by
   rintro t1 g1 n k1 ⟨g2,ρ2,k3,k4⟩ k2
   refine zV.cons k1 ?_
   refine zV.mono (zV.gh k3 (yR k2 k4)) ?_
   rintro s' ⟨g',q1,t2,q2,q3⟩
   exact ⟨t2,q2,q3.gh q1⟩
  have doit: ∀ {t1:TS S},zc fr b N ρ t1 g→zZ g.ts (some (gt,gb))=true→zB g.ts (some (gt,gb))=true→Qq Γ N dst f args C t1 (fun t=>qe Γ N os t K)=some r→zV pr b (AO.er (.hg dst f args gt gb C res::os)) g (fun s'=> ∃t',K t'=some r∧Rel fr b N t' s'):=by
   intro t1 h1 hg hw hr;unfold Qq at hr;split at hr
   ·rename_i e he;obtain ⟨n,g1,k1,t',g2,ρ2,k2,k3,k4⟩:=Ux (res:=res) h1 hr
    rw [show e.f=f from qj he,←zgp hg hw] at k1;exact go k1 ⟨g2,ρ2,k3,k4⟩ k2
   ·cases hr
  unfold gH at hr;split at hr
  ·rename_i hs;split at hr
   ·rename_i hd;have e:g.ts.getD gt .undef= .skip:=h.sl _ _ hs
    refine go (n:=0) (g1:=⟨yx g.ts dst .skip,g.hp⟩) ?_ (Rel.of (h.putD hd (show VS ρ g.hp .skip .skip from rfl))) hr
    simp only [zL,zZ,e,zB,if_true,Bool.false_eq_true,if_false]
   ·cases hr
  ·rename_i m v hs;split at hr
   ·rename_i hc;simp only [Bool.and_eq_true] at hc;have hi:gt<N:=by simpa using hc.1
    have e:g.ts.getD gt .undef= .bool v:=(show Cl g.hp m (.bool v) _ from (h.sl _ _ hs).1).sc rfl
    have hput: ∀w:Bool,v=w→zc fr b N ρ (t.put gt (qi w)) g:=fun w hw=>by
     subst hw;have:=h.put hi (qz (S:=S) (ρ:=ρ) (H:=g.hp) v)
     rw [QS (by rw [h.len];exact hi) e] at this
     exact this
    have hok:zZ g.ts (some (gt,gb))=true:=by simp only [zZ,e]
    cases v with
    | true=>
     simp only [cond_true] at hr
     cases gb with
     | true=>exact doit (hput true rfl) hok (by simp only [zB,e];rfl) hr
     | false=>
      refine go (n:=0) (g1:=⟨yx g.ts dst .skip,g.hp⟩) ?_ (Rel.of ((hput true rfl).putD hc.2 (show VS ρ g.hp .skip .skip from rfl))) hr
      simp only [zL,hok,zB,e,if_true];rfl
    | false=>
     simp only [cond_false] at hr
     cases gb with
     | true=>
      refine go (n:=0) (g1:=⟨yx g.ts dst .skip,g.hp⟩) ?_ (Rel.of ((hput false rfl).putD hc.2 (show VS ρ g.hp .skip .skip from rfl))) hr
      simp only [zL,hok,zB,e,if_true];rfl
     | false=>exact doit (hput false rfl) hok (by simp only [zB,e];rfl) hr
   ·cases hr
  ·cases hr
 | .n3 a e sz bytes x y r1 d u i r2 r3::os,t,g,ρ,K,r,hr,h=>by
  refine zV.app (l:= [_,_,_]) (zV.mono (zhV (K:=fun t=>qe Γ N os t K) h hr) ?_)
  rintro s1 ⟨t1,ρ1,k1,k2⟩
  exact yR (os:=os) k1 k2
end
end Go.Pi
