import Derived.Test.YtmfccopfmddllaaGreatPiX
set_option linter.all false
namespace Go.Pi
set_option linter.unusedVariables false
def ZK (nq:Nat→Bool):POp→Nat
 | .mv _ | .pick _ _ _ | .build _ _ | .bin _ _ _ | .eqB _ _ _ | .eqNS _ _ | .eqNP _ _ | .eqA _ _ _ _ | .un _ _ | .sliceS _ _ _ | .fieldAddr _ _ _ | .field _ _ _ _ | .indexAddrA _ _ _ _ | .index _ _ _ _ _ |
  .indexS _ _ | .extract _ _ | .len _ | .lenS _ | .minmax _ _ _ | .bits _ | .ofBits _ | .nilCheck _=>0
 | .load _ _ _ | .slice _ _ _ _ | .indexAddr _ _ _ | .conv _ _ | .callV _ _ _=>1
 | .call f _=>bif nq f then 2 else 1
 | _=>2
def Ug (p q:Nat):Bool:=p==0 || q==0 || (p==1&&q==1)
def J5 (nq:Nat→Bool)(q:PO):List PO→Nat→Bool
 | [],_=>true
 | p::ps,j=>(q.after.contains j || Ug (ZK nq p.op) (ZK nq q.op))&&J5 nq q ps (j+1)
def Qt (nq:Nat→Bool):List PO→List PO→Bool
 | _,[]=>true
 | pre,q::qs=>J5 nq q pre 0&&Qt nq (pre ++ [q]) qs
def yZ (nq:Nat→Bool)(o:PO):PO:=match o.op with
 | .call f args=>bif nq f then o else { o with op:= .callQ f args }
 | _=>o
def qf (nq:Nat→Bool):PC→PC
 | .region true k ops=>if Qt nq [] ops then .region false k (ops.map (yZ nq)) else .region true k ops
 | .seq a b=> .seq (qf nq a) (qf nq b)
 | .cond c x y=> .cond c (qf nq x) (qf nq y)
 | .block id c=> .block id (qf nq c)
 | .loop c=> .loop (qf nq c)
 | c=>c
def jc (nq:Nat→Bool)(f:PF):PF:=⟨f.ntmps,f.results,qf nq f.body,f.orc⟩
section
variable {c:zy} {b:Nat} {nq:Nat→Bool}
def Fp.none (a:Fp):Prop:=a.rd= []∧a.lv= []∧a.wr= []∧a.fz= []∧a.all=false
def Fp.calm (a:Fp):Prop:=a.wr= []∧a.fz= []∧a.all=false
def zgG (k:Nat)(a:Fp):Prop:=(k=0→a.none)∧(k=1→a.calm)
theorem jD (xs:List Nat):meets [] xs=false:=rfl
theorem ZH (xs:List Nat):meets xs []=false:=by induction xs<;>simp_all [meets]
theorem zgh {k m:Nat}{x y:Fp}(h:Ug k m=true)(hx:zgG k x)(hy:zgG m y):clash x y=false:=by
 simp only [Ug,Bool.or_eq_true,beq_iff_eq,Bool.and_eq_true] at h;rcases h with (h | h) | ⟨h1,h2⟩
 ·obtain ⟨a,b,c,d,e⟩:=hx.1 h
  simp [clash,Fp.idle,a,b,c,d,e,jD,ZH]
 ·obtain ⟨a,b,c,d,e⟩:=hy.1 h
  simp [clash,Fp.idle,a,b,c,d,e,jD,ZH]
 ·obtain ⟨a,b,c⟩:=hx.2 h1
  obtain ⟨a',b',c'⟩:=hy.2 h2
  simp [clash,a,b,c,a',b',c',jD]
def ZF:Eff Out→Prop
 | .pure o=>o.ws= []∧o.fz= []
 | .fail=>True
 | _=>False
def Jr:Eff Out→Prop
 | .pure o=>o.ws= []∧o.fz= []
 | .fail=>True
 | .get _ k=> ∀sz es,Jr (k sz es)
 | _=>False
theorem zb3 (d:D):ZF (quiet d):=⟨rfl,rfl⟩
theorem JF (d:Option D):ZF (zZ d):=by cases d<;>simp [zZ,ZF,quiet]
theorem U6: ∀ {e:Eff Out},ZF e→Jr e
 | .pure _,h=>h
 | .fail,h=>h
 | .get _ _,h=>absurd h (by simp [ZF])
 | .live _ _,h=>absurd h (by simp [ZF])
 | .new _ _,h=>absurd h (by simp [ZF])
theorem XR {e:Eff Out}(h:ZF e){H:zf}{x:Out}(hr:e.run H=some x):x.ws= []∧x.fz= []∧e.rd H= []∧e.lv H= []:=by
 cases e with
 | pure o=>simp only [Eff.run,Option.some.injEq] at hr;subst hr;exact ⟨h.1,h.2,rfl,rfl⟩
 | fail=>simp [Eff.run] at hr
 | get _ _=>exact absurd h (by simp [ZF])
 | live _ _=>exact absurd h (by simp [ZF])
 | new _ _=>exact absurd h (by simp [ZF])
theorem za3: ∀ {e:Eff Out},Jr e→ ∀ {H:zf} {x:Out},e.run H=some x→x.ws= []∧x.fz= []
 | .pure o,h,H,x,hr=>by simp only [Eff.run,Option.some.injEq] at hr;subst hr;exact h
 | .fail,h,H,x,hr=>by simp [Eff.run] at hr
 | .get _ k,h,H,x,hr=>by
  simp only [Eff.run] at hr;split at hr
  ·exact za3 (h _ _) hr
  ·cases hr
 | .live _ _,h,_,_,_=>absurd h (by simp [Jr])
 | .new _ _,h,_,_,_=>absurd h (by simp [Jr])
theorem Vd (d:D):Jr (quiet d):=⟨rfl,rfl⟩
theorem JL (d:Option D):Jr (zZ d):=U6 (JF d)
theorem XM {ρ:PX→D}{r:Nat}{op:POp}(hk:ZK nq op=0):ZF (opE c ρ r op):=by
 cases op<;>first | (simp [ZK] at hk;done) | skip
 case call f a=>
  simp only [ZK] at hk
  cases h:nq f<;>rw [h] at hk<;>cases hk
 all_goals simp only [opE]
 all_goals repeat' split
 all_goals first | exact zb3 _ | exact JF _ | exact trivial
theorem zf2 {ρ:PX→D}{r:Nat}{op:POp}(hk:ZK nq op=1)(hc: ∀f a,op ≠ .call f a)(hv: ∀x y a,op ≠ .callV x y a):Jr (opE c ρ r op):=by
 cases op<;>first | (simp [ZK] at hk;done) | skip
 case call f a=>exact absurd rfl (hc f a)
 case callV f y a=>exact absurd rfl (hv f y a)
 all_goals simp only [opE]
 all_goals repeat' split
 all_goals first | exact Vd _ | exact JL _ | exact trivial | (intro sz es;simp only [];repeat' split)
 all_goals first | exact Vd _ | exact JL _ | exact trivial
theorem zdz {o:PO}{s s':St}(h:zD c b (yZ nq o) s=some s'):zD c b o s=some s'∧zgG (ZK nq o.op) (zq c b o s):=by
 obtain ⟨dst,op,g,l,res⟩:=o
 by_cases hn: ∃f a,op= .call f a∧nq f=true
 ·obtain ⟨f,a,rfl,hn⟩:=hn
  rw [show yZ nq ⟨dst,.call f a,g,l,res⟩=⟨dst,.call f a,g,l,res⟩ by simp only [yZ,hn,cond_true]] at h
  exact ⟨h,fun e=>by simp [ZK,hn] at e,fun e=>by simp [ZK,hn] at e⟩
 unfold zD at h;have hg:(yZ nq ⟨dst,op,g,l,res⟩).guard=g∧(yZ nq ⟨dst,op,g,l,res⟩).dst=dst∧(yZ nq ⟨dst,op,g,l,res⟩).res=res:=by
  unfold yZ;split
  ·rename_i f a _
   cases nq f<;>simp
  ·simp
 rw [hg.1,hg.2.1,hg.2.2] at h;split at h
 ·rename_i h1;split at h
  ·rename_i h2;by_cases hcall: ∃f a,op= .call f a
   ·obtain ⟨f,a,rfl⟩:=hcall
    have hn':nq f=false:=by
     cases h:nq f with
     | false=>rfl
     | true=>exact absurd ⟨f,a,rfl,h⟩ hn
    have hn:=hn'
    rw [show yZ nq ⟨dst,.call f a,g,l,res⟩=⟨dst,.callQ f a,g,l,res⟩ by simp only [yZ,hn,cond_false]] at h
    simp only [opE] at h;obtain ⟨x,h3,h4⟩:=Option.map_eq_some_iff.1 h
    rw [ze] at h3;obtain ⟨y,h5,h6⟩:=Option.bind_eq_some_iff.1 h3
    split at h6
    ·rename_i hq;simp only [Eff.run,Option.some.injEq] at h6;subst h6;simp only [Bool.and_eq_true,List.isEmpty_iff] at hq;refine ⟨by simp only [zD,h1,h2,if_true,opE,h5];exact congrArg some h4,fun h=>absurd h (by simp [ZK,hn]),fun _=> ?_⟩
     simp only [zq,h2,if_true,opE,h5,Fp.calm,hq.1,hq.2,List.map_nil,and_self]
    ·simp [Eff.run] at h6
   ·have hq:yZ nq ⟨dst,op,g,l,res⟩=⟨dst,op,g,l,res⟩:=by
     unfold yZ;split
     ·rename_i f a e;exact absurd ⟨f,a,e⟩ hcall
     ·rfl
    rw [hq] at h;refine ⟨by simp only [zD,h1,h2,if_true];exact h,?_⟩
    cases op
    case callH f a=>exact ⟨fun h=>absurd h (by simp [ZK]),fun h=>absurd h (by simp [ZK])⟩
    case callV fs y a=>
     obtain ⟨x,h3,h4⟩:=Option.map_eq_some_iff.1 h
     refine ⟨fun h=>absurd h (by simp [ZK]),fun _=> ?_⟩
     have h5:=h3
     simp only [opE] at h5;split at h5
     ·split at h5
      case isFalse=>simp [Eff.run] at h5
      rw [ze] at h5;obtain ⟨z,h6,h7⟩:=Option.bind_eq_some_iff.1 h5
      split at h7
      ·rename_i hq;simp only [Eff.run,Option.some.injEq] at h7;subst h7;simp only [Bool.and_eq_true,List.isEmpty_iff] at hq;simp only [zq,h2,if_true,h3,Fp.calm,hq.1,hq.2,List.map_nil,and_self]
      ·simp [Eff.run] at h7
     ·simp [Eff.run] at h5
    all_goals
     obtain ⟨x,h3,h4⟩:=Option.map_eq_some_iff.1 h
     refine ⟨fun hk=> ?_,fun hk=> ?_⟩
     ·obtain ⟨a1,a2,a3,a4⟩:=XR (XM (c:=c) (ρ:=PX.ev s.ts) (r:=b+res) hk) h3
      simp only [zq,h2,if_true,h3,Fp.none,a1,a2,a3,a4,List.map_nil,and_self]
     ·obtain ⟨a1,a2⟩:=za3 (zf2 (c:=c) (ρ:=PX.ev s.ts) (r:=b+res) hk (fun f a e=>hcall ⟨f,a,e⟩) (fun _ _ _ e=>by cases e)) h3
      simp only [zq,h2,if_true,h3,Fp.calm,a1,a2,List.map_nil,and_self]
  ·rename_i h2;refine ⟨by simp only [zD,h1,h2,if_true];exact h,?_⟩
   simp only [zq,h2];exact ⟨fun _=>⟨rfl,rfl,rfl,rfl,rfl⟩,fun _=>⟨rfl,rfl,rfl⟩⟩
 ·cases h
def zkv (nq:Nat→Bool):List PO→List (Nat×Fp)→Prop
 | pre,seen=> ∀p∈seen, ∃o,pre[p.1]? = some o∧zgG (ZK nq o.op) p.2
theorem X5 {q:PO}: ∀ {pre:List PO} {j:Nat},J5 nq q pre j=true→ ∀k o,pre[k]? = some o→q.after.contains (j+k)=true∨Ug (ZK nq o.op) (ZK nq q.op)=true
 | [],j,_,k,o,h=>by simp at h
 | p::ps,j,h,k,o,ho=>by
  simp only [J5,Bool.and_eq_true,Bool.or_eq_true] at h
  cases k with
  | zero=>simp at ho;subst ho;exact h.1
  | succ k=>
   have:=X5 h.2 k o (by simpa using ho)
   rwa [show j+(k+1)=j+1+k by omega]
theorem zcI: ∀ {qs pre:List PO} {seen:List (Nat×Fp)} {s s':St},Qt nq pre qs=true→zkv nq pre seen→jW c b (qs.map (yZ nq)) s=some s'→YA c b qs pre.length seen s=some s'
 | [],pre,seen,s,s',_,_,h=>h
 | q::qs,pre,seen,s,s',hok,hs,h=>by
  simp only [Qt,Bool.and_eq_true] at hok;simp only [List.map_cons,jW] at h;obtain ⟨s1,h1,h2⟩:=Option.bind_eq_some_iff.1 h
  obtain ⟨k1,k2⟩:=zdz h1
  have hall:(seen.all fun p=>q.after.contains p.1 || !clash p.2 (zq c b q s))=true:=by
   rw [List.all_eq_true];intro p hp;obtain ⟨o,ho,hf⟩:=hs p hp
   rcases X5 hok.1 p.1 o ho with h | h
   ·rw [Nat.zero_add] at h;rw [h];rfl
   ·simp [zgh h hf k2]
  simp only [YA,hall,if_true,k1,Option.bind_some];have:=zcI (pre:=pre ++ [q]) (seen:=(pre.length,zq c b q s)::seen) hok.2 (fun p hp=>by
   simp only [List.mem_cons] at hp;rcases hp with rfl | hp
   ·exact ⟨q,by simp,k2⟩
   ·obtain ⟨o,ho,hf⟩:=hs p hp
    refine ⟨o,?_,hf⟩
    rw [List.getElem?_append_left (List.getElem?_eq_some_iff.1 ho).1];exact ho) h2
  simpa using this
theorem zbg {n:Nat}: ∀ {p:PC} {s:St} {r:Ex×St},code c n (qf nq p) s=some r→code c n p s=some r:=by
 intro p;induction p with
 | skip=>exact fun h=>h
 | region draw k ops=>
  intro s r h
  cases draw with
  | false=>exact h
  | true=>
   simp only [qf] at h;split at h
   ·rename_i hok;simp only [code,Bool.false_eq_true,if_false] at h;obtain ⟨s1,h1,h2⟩:=Option.map_eq_some_iff.1 h
    simp only [code,if_true];have:=zcI (pre:= []) (seen:= []) hok (fun p hp=>by simp at hp) h1
    rw [show ([]:List PO).length=0 from rfl] at this
    rw [this];exact congrArg some h2
   ·exact h
 | seq a b iha ihb=>
  intro s r h;simp only [qf,code] at h ⊢
  cases ha:code c n (qf nq a) s with
  | none=>rw [ha] at h;cases h
  | some x=>
   rw [iha ha];rw [ha] at h;obtain ⟨ex,s1⟩:=x
   cases ex with
   | normal=>exact ihb h
   | exit i=>exact h
   | ret=>exact h
 | cond q x y ihx ihy=>
  intro s r h;simp only [qf,code] at h ⊢
  split at h
  ·rename_i b hb;split at h
   ·rename_i e;simp only [e,if_true];exact ihx h
   ·rename_i e;simp only [e];exact ihy h
  ·cases h
 | block id q ih=>
  intro s r h;simp only [qf,code] at h ⊢
  cases ha:code c n (qf nq q) s with
  | none=>rw [ha] at h;cases h
  | some x=>
   rw [ih ha];rw [ha] at h;exact h
 | loop q ih=>
  intro s r h;exact Zx (fun s r h=>ih h) (Nat.le_refl _) h
 | exit id=>exact fun h=>h
 | ret=>exact fun h=>h
end
theorem Ju {nq:Nat→Bool}{P P':yn}(hp: ∀f pf',P' f=some pf'→ ∃pf,P f=some pf∧pf'=jc nq pf): ∀n,Zk (runN P' n) (runN P n)
 | 0=>fun f a H x h=>by simp [runN] at h
 | n+1=>fun f a H x h=>by
  simp only [runN] at h ⊢
  cases hf:P' f with
  | none=>rw [hf] at h;cases h
  | some pf'=>
   obtain ⟨pf,h1,rfl⟩:=hp f pf' hf
   rw [hf] at h;rw [h1];simp only [jc] at h ⊢
   split
   ·rename_i g hg;rw [hg] at h;exact h
   rename_i hg;rw [hg] at h;simp only at h ⊢
   cases hcode:code (runN P' n) n (qf nq pf.body) ⟨a++List.replicate (pf.ntmps-a.length) .undef,H⟩ with
   | none=>rw [hcode] at h;cases h
   | some r=>
    rw [qm (Ju hp n) (Nat.le_refl n) (zbg hcode)];rw [hcode] at h;exact h
end Go.Pi
