import Derived.Test.YtmfccopfmddllaaGreatLX
import Derived.Test.YtmfccopfmddllaaGreatPiZ
set_option linter.all false
namespace Go.Pi
set_option linter.unusedVariables false
def inK (k:IntKind)(n:Int):Prop:=k.min≤n∧n≤k.max
theorem UC {P:Program}{m t:Nat}{k:IntKind}{ds:List D}(hu:P.underlying t=some (.int k))(h:TyD P (m+1) t ds): ∃n,inK k n∧ds= [.int k n]:=by
 simp only [TyD,hu] at h;obtain ⟨n,h1,rfl⟩:=h
 simp only [Lit.wf,Bool.and_eq_true,decide_eq_true_eq] at h1;exact ⟨n,h1,rfl⟩
theorem zd1 {H:zf}{d:D}{t:Bool}{hs rd:List Nat}(h:Y0 H d=some (.bool t,hs,rd)):d= .bool t:=by
 have hfz: ∀ {d:D},((frz ya d).run H).map (fun x=>(x.1,([]:List Nat),x.2))=some (.bool t,hs,rd)→d= .bool t:=by
  intro d h;simp only [Option.map_eq_some_iff] at h;obtain ⟨x,h1,h2⟩:=h
  have hx:x.1= .bool t:=congrArg Prod.fst h2
  cases d<;>simp only [ya,frz] at h1
  case ref id off len=>
   obtain ⟨_,_,_,_,h3⟩:=yy h1
   split at h3
   ·obtain ⟨y,_,h4⟩:=run_bind' h3
    simp only [Eff.run,Option.some.injEq] at h4;rw [←h4] at hx;cases hx
   ·simp [Eff.run] at h3
  case ptr id off=>
   obtain ⟨_,_,_,_,h3⟩:=yy h1
   split at h3
   ·obtain ⟨y,_,h4⟩:=run_bind' h3
    simp only [Eff.run,Option.some.injEq] at h4;rw [←h4] at hx;cases hx
   ·simp [Eff.run] at h3
  case agg cs=>
   obtain ⟨y,_,h4⟩:=run_bind' h1
   simp only [Eff.run,Option.some.injEq] at h4;rw [←h4] at hx;cases hx
  case tup=>simp [Eff.run] at h1
  case own=>simp [Eff.run] at h1
  all_goals
   simp only [Eff.run,Option.some.injEq] at h1;rw [←h1] at hx;exact hx
 cases d<;>try exact hfz h
 rename_i id off len;simp only [Y0] at h;split at h
 ·split at h
  ·simp only [Option.map_eq_some_iff] at h;obtain ⟨x,_,h2⟩:=h
   cases congrArg Prod.fst h2
  ·exact hfz h
 ·exact hfz h
section
variable {S:Nat→Type} [Sg:Sig S]
theorem zbw {c:Code}(hc:isAgg c=false){v:T S c}{d:D}(h:zg (Cl [] 1) (en c v) [d]):VS (S:=S) yQ [] (.one 1 c v) d:=by
 simp only [VS,VSx,hc];exact h
theorem zeY {k:IntKind}{n:Int}:VS (S:=S) yQ [] (.one 1 (.int k) n) (.int k n):=zbw rfl ⟨Cl.plain rfl (by simp [Nr]),trivial⟩
theorem zdw {c:Code}{Q:T S c→Prop}{P:Program}{m t e:Nat}{d:D}(hu:P.underlying t=some (.slice e))(hc:P.cellsOf e=W (S:=S) c)(hel: ∀x,TyD P m e x→ ∃a,Q a∧x=en c a)(hn: ∀a,Q a→zg Nr (en c a) (en c a))(h:TyD P (m+1) t [d]) :
  ∃l:List (T S c),(∀a∈l,Q a)∧l.length≤maxLen∧VS (S:=S) yQ [] (.one 1 (.list c) l) d:=by
 simp only [TyD,hu,hc] at h;rcases h with h | ⟨es,h1,h2,h3⟩
 ·injection h with h;subst h;exact ⟨[],by simp,by simp [maxLen],zbw rfl ⟨Cl.plain rfl Nr.mk_nil,trivial⟩⟩
 ·injection h2 with h2;subst h2;have key: ∀es:List (List D),(∀x∈es,x.length=W (S:=S) c∧TyD P m e x)→ ∃l:List (T S c),(∀a∈l,Q a)∧l.length=es.length∧es=l.map (en c):=by
   intro es;induction es with
   | nil=>exact fun _=>⟨[],by simp,rfl,rfl⟩
   | cons x es ih=>
    intro hx;obtain ⟨l,l1,l2,l3⟩:=ih fun y hy=>hx y (by simp [hy])
    obtain ⟨a,a1,a2⟩:=hel x (hx x (by simp)).2
    exact ⟨a::l,by simp;exact ⟨a1,l1⟩,by simp [l2],by simp [a2,l3]⟩
  obtain ⟨l,l1,l2,l3⟩:=key es h3
  refine ⟨l,l1,by omega,zbw rfl ⟨Cl.plain rfl ?_,trivial⟩⟩
  rw [l3];refine Nr.mk_lst ?_
  clear l2 l3
  induction l with
  | nil=>trivial
  | cons a l ih=>exact ⟨hn a (l1 a (by simp)),ih fun x hx=>l1 x (by simp [hx])⟩
theorem zdx {k:IntKind}{P:Program}{m t e:Nat}{d:D}(hu:P.underlying t=some (.slice e))(hu2:P.underlying e=some (.int k))(hc:P.cellsOf e=1)(h:TyD P (m+2) t [d]) :
  ∃l:List Int,(∀a∈l,inK k a)∧l.length≤maxLen∧VS (S:=S) yQ [] (.one 1 (.list (.int k)) l) d:=
 zdw (S:=S) (c:= .int k) (Q:=inK k) hu hc (fun x h=>UC hu2 h) (fun a _=>⟨by simp [Nr],trivial⟩) h
theorem FOk.true {pr:yn}{f:Nat}{ps:List PK}{F:Flds S (pcs ps)→Option (Flds S (rcs [.val .bool]))}(h:FOk pr f ps [.val .bool] F){p:Flds S (pcs ps)}(hp:F p=some (true,())){ds:List D}(hd:zg (VS yQ []) (YH ps p) ds) :
  ZL pr f ds [] (fun d _=>d= .bool true):=by
 refine (h p _ hp ds hd).mono ?_
 rintro d H' ⟨h1,xs,hs,rd,h2,_,_,h3⟩
 have hc:qq d= [d]:=by cases d<;>simp [jP,tpR] at h1<;>rfl
 rw [hc] at h2;simp only [QP,Option.bind_eq_some_iff] at h2;obtain ⟨x,e1,y,e2,e3⟩:=h2
 simp only [Option.some.injEq] at e2;subst e2;simp only [Option.some.injEq,Prod.mk.injEq] at e3;obtain ⟨rfl,_,_⟩:=e3
 obtain ⟨h4,_⟩:=h3
 have h5:zg (Cl [] 1) [D.bool Bool.true] [x.1]:=h4
 obtain ⟨h6,_⟩:=h5
 have h7:x.1= .bool Bool.true:=by
  rcases h6 with ⟨_,h⟩ | ⟨sz,es,id,off,len,es0,e,_⟩ | ⟨cs,id,i,j,sz,es0,e',e,_⟩ | ⟨cs,ds,e,_⟩
  ·simpa [Nr] using h
  ·cases e
  ·cases e
  ·cases e
 exact zd1 (by rw [e1,←h7])
end
theorem zb8 {P:Program}{nq:Nat→Bool}{fm:Nat→Nat}{pr0 pr:yn}(hm:P.follows .mixedOrders=Bool.true)(hl:UA P fm pr0)(hu: ∀f pf',pr f=some pf'→ ∃pf,pr0 f=some pf∧pf'=Jn (jc nq pf))
  {W:World} {f:Nat} {args:Array Value} {ds:List D} (hlen:args.size=ds.length)
  (hr: ∀(j:Nat) (v:Value) (x:D),args[j]? = some v→ds[j]? = some x→RepC fm (fun b=>b<W.heap.size) W v x) (h:ZL pr f ds [] (fun d _=>d= .bool Bool.true)) :
  Calls P (fm f) args W fun e W'=>e= .returned (.bool Bool.true)∧Kept W W'∧W.heap.size≤W'.heap.size:=by
 let prU:yn:=fun f=>match pr f with
  | some _=>(pr0 f).map (jc nq)
  | none=>none
 have h1: ∀f,pr f=(prU f).map Jn:=by
  intro f;show pr f=(match pr f with
   | some _=>(pr0 f).map (jc nq)
   | none=>none).map Jn
  cases e:pr f with
  | none=>rfl
  | some pf'=>
   obtain ⟨pf,h2,h3⟩:=hu f pf' e
   simp only [h2,Option.map_some,h3]
 refine zb7 (nq:=nq) (pr:=prU) hm hl (fun f pf' e=> ?_) hlen hr (h.slim h1)
 have e2:(match pr f with
   | some _=>(pr0 f).map (jc nq)
   | none=>none)=some pf':=e
 cases e3:pr f with
 | none=>rw [e3] at e2;cases e2
 | some q=>
  rw [e3] at e2;obtain ⟨pf,h2,h3⟩:=Option.map_eq_some_iff.1 e2
  exact ⟨pf,h2,h3.symm⟩
end Go.Pi
