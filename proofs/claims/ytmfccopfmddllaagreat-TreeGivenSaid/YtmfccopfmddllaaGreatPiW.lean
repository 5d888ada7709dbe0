import Derived.Test.YtmfccopfmddllaaGreatPiX
set_option linter.all false
namespace Go.Pi
set_option linter.unusedVariables false
def Yc (nq:Nat→Bool):POp→Nat
 | .mv _ | .pick _ _ _ | .build _ _ | .bin _ _ _ | .eqB _ _ _ | .eqNS _ _ | .eqNP _ _ | .eqA _ _ _ _ | .un _ _ | .sliceS _ _ _ | .fieldAddr _ _ _ | .field _ _ _ _ | .indexAddrA _ _ _ _ | .index _ _ _ _ _ |
  .indexS _ _ | .extract _ _ | .len _ | .lenS _ | .minmax _ _ _ | .bits _ | .ofBits _ | .nilCheck _=>0
 | .load _ _ _ | .slice _ _ _ _ | .indexAddr _ _ _ | .conv _ _ | .callV _ _ _=>1
 | .call f _=>bif nq f then 2 else 1
 | _=>2
def UR (p q:Nat):Bool:=p==0 || q==0 || (p==1&&q==1)
def XE (nq:Nat→Bool)(q:PO):List PO→Nat→Bool
 | [],_=>true
 | p::ps,j=>(q.after.contains j || UR (Yc nq p.op) (Yc nq q.op))&&XE nq q ps (j+1)
def Q0 (nq:Nat→Bool):List PO→List PO→Bool
 | _,[]=>true
 | pre,q::qs=>XE nq q pre 0&&Q0 nq (pre ++ [q]) qs
def qq (nq:Nat→Bool)(o:PO):PO:=match o.op with
 | .call f args=>bif nq f then o else { o with op:= .callQ f args }
 | _=>o
def qC (nq:Nat→Bool):PC→PC
 | .region true k ops=>if Q0 nq [] ops then .region false k (ops.map (qq nq)) else .region true k ops
 | .seq a b=> .seq (qC nq a) (qC nq b)
 | .cond c x y=> .cond c (qC nq x) (qC nq y)
 | .block id c=> .block id (qC nq c)
 | .loop c=> .loop (qC nq c)
 | c=>c
def jA (nq:Nat→Bool)(f:PF):PF:=⟨f.ntmps,f.results,qC nq f.body,f.orc⟩
section
variable {c:zG} {b:Nat} {nq:Nat→Bool}
def Fp.none (a:Fp):Prop:=a.rd= []∧a.lv= []∧a.wr= []∧a.fz= []∧a.all=false
def Fp.calm (a:Fp):Prop:=a.wr= []∧a.fz= []∧a.all=false
def zhl (k:Nat)(a:Fp):Prop:=(k=0→a.none)∧(k=1→a.calm)
theorem j1 (xs:List Nat):yi [] xs=false:=rfl
theorem Z9 (xs:List Nat):yi xs []=false:=by induction xs<;>simp_all [yi]
theorem zgW {k m:Nat}{x y:Fp}(h:UR k m=true)(hx:zhl k x)(hy:zhl m y):clash x y=false:=by
 simp only [UR,Bool.or_eq_true,beq_iff_eq,Bool.and_eq_true] at h;rcases h with (h | h) | ⟨h1,h2⟩
 ·obtain ⟨a,b,c,d,e⟩:=hx.1 h
  simp [clash,Fp.idle,a,b,c,d,e,j1,Z9]
 ·obtain ⟨a,b,c,d,e⟩:=hy.1 h
  simp [clash,Fp.idle,a,b,c,d,e,j1,Z9]
 ·obtain ⟨a,b,c⟩:=hx.2 h1
  obtain ⟨a',b',c'⟩:=hy.2 h2
  simp [clash,a,b,c,a',b',c',j1]
def Z7:Eff Out→Prop
 | .pure o=>o.ws= []∧o.fz= []
 | .fail=>True
 | _=>False
def JX:Eff Out→Prop
 | .pure o=>o.ws= []∧o.fz= []
 | .fail=>True
 | .get _ k=> ∀sz es,JX (k sz es)
 | _=>False
theorem zcF (d:D):Z7 (yb d):=⟨rfl,rfl⟩
theorem Xb (d:Option D):Z7 (yn d):=by cases d<;>simp [yn,Z7,yb]
theorem zaH: ∀ {e:Eff Out},Z7 e→JX e
 | .pure _,h=>h
 | .fail,h=>h
 | .get _ _,h=>absurd h (by simp [Z7])
 | .live _ _,h=>absurd h (by simp [Z7])
 | .new _ _,h=>absurd h (by simp [Z7])
theorem Vq {e:Eff Out}(h:Z7 e){H:zg}{x:Out}(hr:e.run H=some x):x.ws= []∧x.fz= []∧e.rd H= []∧e.lv H= []:=by
 cases e with
 | pure o=>simp only [Eff.run,Option.some.injEq] at hr;subst hr;exact ⟨h.1,h.2,rfl,rfl⟩
 | fail=>simp [Eff.run] at hr
 | get _ _=>exact absurd h (by simp [Z7])
 | live _ _=>exact absurd h (by simp [Z7])
 | new _ _=>exact absurd h (by simp [Z7])
theorem zbE: ∀ {e:Eff Out},JX e→ ∀ {H:zg} {x:Out},e.run H=some x→x.ws= []∧x.fz= []
 | .pure o,h,H,x,hr=>by simp only [Eff.run,Option.some.injEq] at hr;subst hr;exact h
 | .fail,h,H,x,hr=>by simp [Eff.run] at hr
 | .get _ k,h,H,x,hr=>by
  simp only [Eff.run] at hr;split at hr
  ·exact zbE (h _ _) hr
  ·cases hr
 | .live _ _,h,_,_,_=>absurd h (by simp [JX])
 | .new _ _,h,_,_,_=>absurd h (by simp [JX])
theorem VN (d:D):JX (yb d):=⟨rfl,rfl⟩
theorem Xh (d:Option D):JX (yn d):=zaH (Xb d)
theorem Vl {ρ:PX→D}{r:Nat}{op:POp}(hk:Yc nq op=0):Z7 (opE c ρ r op):=by
 cases op<;>first | (simp [Yc] at hk;done) | skip
 case call f a=>
  simp only [Yc] at hk
  cases h:nq f<;>rw [h] at hk<;>cases hk
 all_goals simp only [opE]
 all_goals repeat' split
 all_goals first | exact zcF _ | exact Xb _ | exact trivial
theorem zgH {ρ:PX→D}{r:Nat}{op:POp}(hk:Yc nq op=1)(hc: ∀f a,op ≠ .call f a)(hv: ∀x y a,op ≠ .callV x y a):JX (opE c ρ r op):=by
 cases op<;>first | (simp [Yc] at hk;done) | skip
 case call f a=>exact absurd rfl (hc f a)
 case callV f y a=>exact absurd rfl (hv f y a)
 all_goals simp only [opE]
 all_goals repeat' split
 all_goals first | exact VN _ | exact Xh _ | exact trivial | (intro sz es;simp only [];repeat' split)
 all_goals first | exact VN _ | exact Xh _ | exact trivial
theorem zec {o:PO}{s s':St}(h:zL c b (qq nq o) s=some s'):zL c b o s=some s'∧zhl (Yc nq o.op) (zx c b o s):=by
 obtain ⟨dst,op,g,l,res⟩:=o
 by_cases hn: ∃f a,op= .call f a∧nq f=true
 ·obtain ⟨f,a,rfl,hn⟩:=hn
  rw [show qq nq ⟨dst,.call f a,g,l,res⟩=⟨dst,.call f a,g,l,res⟩ by simp only [qq,hn,cond_true]] at h
  exact ⟨h,fun e=>by simp [Yc,hn] at e,fun e=>by simp [Yc,hn] at e⟩
 unfold zL at h;have hg:(qq nq ⟨dst,op,g,l,res⟩).guard=g∧(qq nq ⟨dst,op,g,l,res⟩).dst=dst∧(qq nq ⟨dst,op,g,l,res⟩).res=res:=by
  unfold qq;split
  ·rename_i f a _
   cases nq f<;>simp
  ·simp
 rw [hg.1,hg.2.1,hg.2.2] at h;split at h
 ·rename_i h1;split at h
  ·rename_i h2;by_cases hcall: ∃f a,op= .call f a
   ·obtain ⟨f,a,rfl⟩:=hcall
    have hn':nq f=false:=by
     cases h:nq f with
     | false=>rfl
     | true=>exact absurd ⟨f,a,rfl,h⟩ hn
    have hn:=hn'
    rw [show qq nq ⟨dst,.call f a,g,l,res⟩=⟨dst,.callQ f a,g,l,res⟩ by simp only [qq,hn,cond_false]] at h
    simp only [opE] at h;obtain ⟨x,h3,h4⟩:=Option.map_eq_some_iff.1 h
    rw [zf] at h3;obtain ⟨y,h5,h6⟩:=Option.bind_eq_some_iff.1 h3
    split at h6
    ·rename_i hq;simp only [Eff.run,Option.some.injEq] at h6;subst h6;simp only [Bool.and_eq_true,List.isEmpty_iff] at hq;refine ⟨by simp only [zL,h1,h2,if_true,opE,h5];exact congrArg some h4,fun h=>absurd h (by simp [Yc,hn]),fun _=> ?_⟩
     simp only [zx,h2,if_true,opE,h5,Fp.calm,hq.1,hq.2,List.map_nil,and_self]
    ·simp [Eff.run] at h6
   ·have hq:qq nq ⟨dst,op,g,l,res⟩=⟨dst,op,g,l,res⟩:=by
     unfold qq;split
     ·rename_i f a e;exact absurd ⟨f,a,e⟩ hcall
     ·rfl
    rw [hq] at h;refine ⟨by simp only [zL,h1,h2,if_true];exact h,?_⟩
    cases op
    case callH f a=>exact ⟨fun h=>absurd h (by simp [Yc]),fun h=>absurd h (by simp [Yc])⟩
    case callV fs y a=>
     obtain ⟨x,h3,h4⟩:=Option.map_eq_some_iff.1 h
     refine ⟨fun h=>absurd h (by simp [Yc]),fun _=> ?_⟩
     have h5:=h3
     simp only [opE] at h5;split at h5
     ·split at h5
      case isFalse=>simp [Eff.run] at h5
      rw [zf] at h5;obtain ⟨z,h6,h7⟩:=Option.bind_eq_some_iff.1 h5
      split at h7
      ·rename_i hq;simp only [Eff.run,Option.some.injEq] at h7;subst h7;simp only [Bool.and_eq_true,List.isEmpty_iff] at hq;simp only [zx,h2,if_true,h3,Fp.calm,hq.1,hq.2,List.map_nil,and_self]
      ·simp [Eff.run] at h7
     ·simp [Eff.run] at h5
    all_goals
     obtain ⟨x,h3,h4⟩:=Option.map_eq_some_iff.1 h
     refine ⟨fun hk=> ?_,fun hk=> ?_⟩
     ·obtain ⟨a1,a2,a3,a4⟩:=Vq (Vl (c:=c) (ρ:=PX.ev s.ts) (r:=b+res) hk) h3
      simp only [zx,h2,if_true,h3,Fp.none,a1,a2,a3,a4,List.map_nil,and_self]
     ·obtain ⟨a1,a2⟩:=zbE (zgH (c:=c) (ρ:=PX.ev s.ts) (r:=b+res) hk (fun f a e=>hcall ⟨f,a,e⟩) (fun _ _ _ e=>by cases e)) h3
      simp only [zx,h2,if_true,h3,Fp.calm,a1,a2,List.map_nil,and_self]
  ·rename_i h2;refine ⟨by simp only [zL,h1,h2,if_true];exact h,?_⟩
   simp only [zx,h2];exact ⟨fun _=>⟨rfl,rfl,rfl,rfl,rfl⟩,fun _=>⟨rfl,rfl,rfl⟩⟩
 ·cases h
def zlb (nq:Nat→Bool):List PO→List (Nat×Fp)→Prop
 | pre,seen=> ∀p∈seen, ∃o,pre[p.1]? = some o∧zhl (Yc nq o.op) p.2
theorem VF {q:PO}: ∀ {pre:List PO} {j:Nat},XE nq q pre j=true→ ∀k o,pre[k]? = some o→q.after.contains (j+k)=true∨UR (Yc nq o.op) (Yc nq q.op)=true
 | [],j,_,k,o,h=>by simp at h
 | p::ps,j,h,k,o,ho=>by
  simp only [XE,Bool.and_eq_true,Bool.or_eq_true] at h
  cases k with
  | zero=>simp at ho;subst ho;exact h.1
  | succ k=>
   have:=VF h.2 k o (by simpa using ho)
   rwa [show j+(k+1)=j+1+k by omega]
theorem zdk: ∀ {qs pre:List PO} {seen:List (Nat×Fp)} {s s':St},Q0 nq pre qs=true→zlb nq pre seen→Zm c b (qs.map (qq nq)) s=some s'→Y5 c b qs pre.length seen s=some s'
 | [],pre,seen,s,s',_,_,h=>h
 | q::qs,pre,seen,s,s',hok,hs,h=>by
  simp only [Q0,Bool.and_eq_true] at hok;simp only [List.map_cons,Zm] at h;obtain ⟨s1,h1,h2⟩:=Option.bind_eq_some_iff.1 h
  obtain ⟨k1,k2⟩:=zec h1
  have hall:(seen.all fun p=>q.after.contains p.1 || !clash p.2 (zx c b q s))=true:=by
   rw [List.all_eq_true];intro p hp;obtain ⟨o,ho,hf⟩:=hs p hp
   rcases VF hok.1 p.1 o ho with h | h
   ·rw [Nat.zero_add] at h;rw [h];rfl
   ·simp [zgW h hf k2]
  simp only [Y5,hall,if_true,k1,Option.bind_some];have:=zdk (pre:=pre ++ [q]) (seen:=(pre.length,zx c b q s)::seen) hok.2 (fun p hp=>by
   simp only [List.mem_cons] at hp;rcases hp with rfl | hp
   ·exact ⟨q,by simp,k2⟩
   ·obtain ⟨o,ho,hf⟩:=hs p hp
    refine ⟨o,?_,hf⟩
    rw [List.getElem?_append_left (List.getElem?_eq_some_iff.1 ho).1];exact ho) h2
  simpa using this
theorem zbR {n:Nat}: ∀ {p:PC} {s:St} {r:Ex×St},ya c n (qC nq p) s=some r→ya c n p s=some r:=by
 intro p;induction p with
 | skip=>exact fun h=>h
 | region draw k ops=>
  intro s r h
  cases draw with
  | false=>exact h
  | true=>
   simp only [qC] at h;split at h
   ·rename_i hok;simp only [ya,Bool.false_eq_true,if_false] at h;obtain ⟨s1,h1,h2⟩:=Option.map_eq_some_iff.1 h
    simp only [ya,if_true];have:=zdk (pre:= []) (seen:= []) hok (fun p hp=>by simp at hp) h1
    rw [show ([]:List PO).length=0 from rfl] at this
    rw [this];exact congrArg some h2
   ·exact h
 | seq a b iha ihb=>
  intro s r h;simp only [qC,ya] at h ⊢
  cases ha:ya c n (qC nq a) s with
  | none=>rw [ha] at h;cases h
  | some x=>
   rw [iha ha];rw [ha] at h;obtain ⟨ex,s1⟩:=x
   cases ex with
   | normal=>exact ihb h
   | exit i=>exact h
   | ret=>exact h
 | cond q x y ihx ihy=>
  intro s r h;simp only [qC,ya] at h ⊢
  split at h
  ·rename_i b hb;split at h
   ·rename_i e;simp only [e,if_true];exact ihx h
   ·rename_i e;simp only [e];exact ihy h
  ·cases h
 | block id q ih=>
  intro s r h;simp only [qC,ya] at h ⊢
  cases ha:ya c n (qC nq q) s with
  | none=>rw [ha] at h;cases h
  | some x=>
   rw [ih ha];rw [ha] at h;exact h
 | loop q ih=>
  intro s r h;exact ZZ (fun s r h=>ih h) (Nat.le_refl _) h
 | exit id=>exact fun h=>h
 | ret=>exact fun h=>h
end
theorem J0 {nq:Nat→Bool}{P P':yE}(hp: ∀f pf',P' f=some pf'→ ∃pf,P f=some pf∧pf'=jA nq pf): ∀n,ZM (zP P' n) (zP P n)
 | 0=>fun f a H x h=>by simp [zP] at h
 | n+1=>fun f a H x h=>by
  simp only [zP] at h ⊢
  cases hf:P' f with
  | none=>rw [hf] at h;cases h
  | some pf'=>
   obtain ⟨pf,h1,rfl⟩:=hp f pf' hf
   rw [hf] at h;rw [h1];simp only [jA] at h ⊢
   split
   ·rename_i g hg;rw [hg] at h;exact h
   rename_i hg;rw [hg] at h;simp only at h ⊢
   cases hcode:ya (zP P' n) n (qC nq pf.body) ⟨a++List.replicate (pf.ntmps-a.length) .undef,H⟩ with
   | none=>rw [hcode] at h;cases h
   | some r=>
    rw [qK (J0 hp n) (Nat.le_refl n) (zbR hcode)];rw [hcode] at h;exact h
end Go.Pi
