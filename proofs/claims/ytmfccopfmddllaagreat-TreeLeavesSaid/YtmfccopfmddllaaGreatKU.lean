import Derived.Test.YtmfccopfmddllaaGreatKMa
set_option linter.all false
namespace Go.Pi
set_option linter.unusedVariables false
def GhH (H G:zf):Prop:=H.length=G.length∧ ∀id,hat G id=hat H id∨(∃sz es,hat H id= .row sz es true∧hat G id= .row sz es false) ∨ ∃sz es lv,hat H id= .row sz es lv∧hat G id= .dead
structure GhK (s g:St):Prop where
 ts:s.ts=g.ts
 hp:GhH s.hp g.hp
theorem GhH.refl (H:zf):GhH H H:=⟨rfl,fun _=> .inl rfl⟩
theorem GhK.refl (s:St):GhK s s:=⟨rfl,GhH.refl _⟩
theorem GhH.trans {A B C:zf}(h:GhH A B)(k:GhH B C):GhH A C:=⟨h.1.trans k.1,fun id=>by
 rcases k.2 id with k2 | ⟨sz,es,k2,k3⟩ | ⟨sz,es,lv,k2,k3⟩<;>rcases h.2 id with h2 | ⟨sz',es',h2,h3⟩ | ⟨sz',es',lv',h2,h3⟩
 ·exact .inl (k2.trans h2)
 ·exact .inr (.inl ⟨sz',es',h2,k2.trans h3⟩)
 ·exact .inr (.inr ⟨sz',es',lv',h2,k2.trans h3⟩)
 ·exact .inr (.inl ⟨sz,es,h2.symm.trans k2,k3⟩)
 ·rw [h3] at k2;cases k2
 ·rw [h3] at k2;cases k2
 ·exact .inr (.inr ⟨sz,es,lv,h2.symm.trans k2,k3⟩)
 ·exact .inr (.inr ⟨sz',es',true,h2,k3⟩)
 ·rw [h3] at k2;cases k2⟩
theorem GhK.trans {a c d:St}(h:GhK a c)(k:GhK c d):GhK a d:=⟨h.ts.trans k.ts,h.hp.trans k.hp⟩
theorem GhH.row {H G:zf}(h:GhH H G){id sz:Nat}{es:List (List D)}{lv:Bool}(k:hat G id= .row sz es lv): ∃lv',hat H id= .row sz es lv'∧(lv=true→lv'=true):=by
 rcases h.2 id with h2 | ⟨sz',es',h2,h3⟩ | ⟨_,_,_,_,h3⟩
 ·exact ⟨lv,h2.symm.trans k,fun q=>q⟩
 ·rw [h3] at k
  cases k;exact ⟨true,h2,fun _=>rfl⟩
 ·rw [h3] at k;cases k
theorem jT {α:Type}{H G:zf}(h:GhH H G): ∀ {e:Eff α} {a:α},e.run G=some a→e.run H=some a∧e.rd H=e.rd G∧e.lv H=e.lv G
 | .pure a,_,k=>⟨k,rfl,rfl⟩
 | .fail,_,k=>by cases k
 | .get id f,a,k=>by
  simp only [Eff.run] at k;split at k
  ·rename_i sz es lv hg;obtain ⟨lv',h1,_⟩:=h.row hg
   obtain ⟨k1,k2,k3⟩:=jT h (e:=f sz es) k
   simp only [Eff.run,Eff.rd,Eff.lv,h1,hg,k1,k2,k3,and_self]
  ·cases k
 | .live id f,a,k=>by
  simp only [Eff.run] at k;split at k
  ·rename_i sz es hg;obtain ⟨lv',h1,h2⟩:=h.row hg
   rw [h2 rfl] at h1;obtain ⟨k1,k2,k3⟩:=jT h (e:=f) k
   simp only [Eff.run,Eff.rd,Eff.lv,h1,k1,k2,k3,and_self]
  ·cases k
 | .new id f,a,k=>by
  simp only [Eff.run] at k;split at k
  ·rename_i hl;split at k
   ·rename_i hg;have h1:hat H id= .fresh:=by
     rcases h.2 id with h2 | ⟨sz',es',h2,h3⟩ | ⟨_,_,_,_,h3⟩
     ·exact h2.symm.trans hg
     ·rw [h3] at hg;cases hg
     ·rw [h3] at hg;cases hg
    obtain ⟨k1,k2,k3⟩:=jT h (e:=f) k
    simp only [Eff.run,Eff.rd,Eff.lv,h.1,hl,h1,k1,k2,k3,if_true,and_self]
   ·cases k
  ·cases k
theorem zfe {H G:zf}(h:GhH H G)(id:Nat)(k:Blk):GhH (H.set id k) (G.set id k):=by
 refine ⟨by simp [h.1],fun j=> ?_⟩
 rcases Nat.lt_or_ge id H.length with q | q
 ·rw [zp q,zp (h.1▸q)];split
  ·exact .inl rfl
  ·exact h.2 j
 ·rw [List.set_eq_of_length_le q,List.set_eq_of_length_le (h.1▸q)];exact h.2 j
theorem Ym {H:zf}{i j:Nat}:hat (H.modify i freeze) j=if j=i then freeze (hat H j) else hat H j:=by
 unfold hat;rw [List.getD_eq_getElem?_getD,List.getD_eq_getElem?_getD,List.getElem?_modify];by_cases e:i=j
 ·subst e
  cases H[i]? <;> simp<;>rfl
 ·cases H[j]? <;> simp [e,Ne.symm e]
theorem zj1 {H G:zf}(h:GhH H G)(id:Nat):GhH (H.modify id freeze) (G.modify id freeze):=by
 refine ⟨by simp [h.1],fun j=> ?_⟩
 rw [Ym,Ym];split
 ·rcases h.2 j with h2 | ⟨sz',es',h2,h3⟩ | ⟨sz',es',lv',h2,h3⟩
  ·left;rw [h2]
  ·left;rw [h2,h3];rfl
  ·right;right;rw [h2,h3];exact ⟨sz',es',false,rfl,rfl⟩
 ·exact h.2 j
theorem zfd: ∀ {ws:List (Nat×Blk)} {H G:zf},GhH H G→GhH (ye H ws) (ye G ws)
 | [],_,_,h=>h
 | (i,k)::ws,_,_,h=>zfd (ws:=ws) (zfe h i k)
theorem zij: ∀ {ws:List Nat} {H G:zf},GhH H G→GhH (qD H ws) (qD G ws)
 | [],_,_,h=>h
 | i::ws,_,_,h=>zij (ws:=ws) (zj1 h i)
theorem zmj {H G:zf}(h:GhH H G)(x:Out):GhH (x.on H) (x.on G):=zij (zfd h)
def Q4 (c:zy):Prop:= ∀f a H G d G',GhH H G→c f a G=some (d,G')→ ∃H',c f a H=some (d,H')∧GhH H' G'
section
variable {c:zy} (hc:Q4 c)
theorem zar (hc:Q4 c){b:Nat}{o:PO}{s g g':St}(h:GhK s g)(k:zD c b o g=some g'): ∃s',zD c b o s=some s'∧GhK s' g'∧zq c b o s=zq c b o g:=by
 unfold zD at k;unfold zD zq;rw [h.ts];split at k
 ·split at k
  ·rename_i h1 h2;simp only [if_pos h1,if_pos h2];split at k
   ·rename_i f args _;simp only [Option.map_eq_some_iff] at k;obtain ⟨⟨d,G'⟩,k1,k2⟩:=k
    obtain ⟨H',k3,k4⟩:=hc _ _ _ _ _ _ h.hp k1
    subst k2;exact ⟨⟨yh g.ts o.dst d,H'⟩,by simp only [k3,Option.map_some],⟨rfl,k4⟩,rfl⟩
   ·rename_i hne;simp only [Option.map_eq_some_iff] at k;obtain ⟨x,k1,k2⟩:=k
    subst k2;obtain ⟨k3,k4,k5⟩:=jT h.hp k1
    exact ⟨⟨yh g.ts o.dst x.d,x.on s.hp⟩,by simp only [k3,Option.map_some],⟨rfl,zmj h.hp x⟩,by simp only [k1,k3,k4,k5]⟩
  ·rename_i h1 h2;simp only [if_pos h1,if_neg h2]
   cases k;exact ⟨_,rfl,⟨rfl,h.hp⟩,trivial⟩
 ·cases k
theorem UH (hc:Q4 c){b:Nat}: ∀ {os:List PO} {s g g':St},GhK s g→jW c b os g=some g'→ ∃s',jW c b os s=some s'∧GhK s' g'
 | [],s,g,g',h,k=>by cases k;exact ⟨s,rfl,h⟩
 | o::os,s,g,g',h,k=>by
  simp only [jW,Option.bind_eq_some_iff] at k;obtain ⟨g1,k1,k2⟩:=k
  obtain ⟨s1,k3,k4,_⟩:=zar hc h k1
  obtain ⟨s',k5,k6⟩:=UH hc k4 k2
  exact ⟨s',by simp only [jW,k3,Option.bind_some,k5],k6⟩
theorem UI (hc:Q4 c){b:Nat}: ∀ {os:List PO} {i:Nat} {seen:List (Nat×Fp)} {s g g':St},GhK s g→YA c b os i seen g=some g'→ ∃s',YA c b os i seen s=some s'∧GhK s' g'
 | [],i,seen,s,g,g',h,k=>by cases k;exact ⟨s,rfl,h⟩
 | o::os,i,seen,s,g,g',h,k=>by
  simp only [YA] at k;split at k
  ·rename_i hok;simp only [Option.bind_eq_some_iff] at k;obtain ⟨g1,k1,k2⟩:=k
   obtain ⟨s1,k3,k4,k7⟩:=zar hc h k1
   obtain ⟨s',k5,k6⟩:=UI hc k4 k2
   refine ⟨s',?_,k6⟩
   simp only [YA,k7];rw [if_pos hok,k3,Option.bind_some,k5]
  ·cases k
theorem zaG {f f':St→Option (Ex×St)}(hf: ∀s g ex g',GhK s g→f g=some (ex,g')→ ∃s',f' s=some (ex,s')∧GhK s' g'): ∀ {n:Nat} {s g:St} {ex:Ex} {g':St},GhK s g→y8 f n g=some (ex,g')→ ∃s',y8 f' n s=some (ex,s')∧GhK s' g'
 | 0,_,_,_,_,_,k=>by cases k
 | n+1,s,g,ex,g',h,k=>by
  simp only [y8] at k;split at k
  ·rename_i g1 hg;obtain ⟨s1,k1,k2⟩:=hf _ _ _ _ h hg
   obtain ⟨s',k3,k4⟩:=zaG hf k2 k
   exact ⟨s',by simp only [y8,k1,k3],k4⟩
  ·rename_i hne;obtain ⟨s1,k1,k2⟩:=hf _ _ _ _ h k
   refine ⟨s1,?_,k2⟩
   cases ex with
   | normal=>exact absurd k (hne g')
   | exit _=>simp only [y8,k1]
   | ret=>simp only [y8,k1]
theorem qx (hc:Q4 c){n:Nat}: ∀ {p:PC} {s g:St} {ex:Ex} {g':St},GhK s g→code c n p g=some (ex,g')→ ∃s',code c n p s=some (ex,s')∧GhK s' g'
 | .skip,s,g,ex,g',h,k=>by cases k;exact ⟨s,rfl,h⟩
 | .exit j,s,g,ex,g',h,k=>by cases k;exact ⟨s,rfl,h⟩
 | .ret,s,g,ex,g',h,k=>by cases k;exact ⟨s,rfl,h⟩
 | .region draw nres ops,s,g,ex,g',h,k=>by
  simp only [code,Option.map_eq_some_iff] at k;obtain ⟨g1,k1,k2⟩:=k
  cases k2;have h0:GhK ⟨s.ts,s.hp++List.replicate nres .fresh⟩ ⟨g.ts,g.hp++List.replicate nres .fresh⟩:=⟨h.ts,by simp [h.hp.1],fun id=>by
   unfold hat;rw [List.getD_eq_getElem?_getD,List.getD_eq_getElem?_getD];rcases Nat.lt_or_ge id s.hp.length with q | q
   ·rw [List.getElem?_append_left q,List.getElem?_append_left (h.hp.1▸q)];have:=h.hp.2 id
    unfold hat at this;rw [List.getD_eq_getElem?_getD,List.getD_eq_getElem?_getD] at this;exact this
   ·rw [List.getElem?_append_right q,List.getElem?_append_right (h.hp.1▸q),h.hp.1];exact .inl rfl⟩
  cases draw with
  | true=>
   simp only [if_true] at k1;obtain ⟨s',k3,k4⟩:=UI hc h0 k1
   exact ⟨s',by simp only [code,if_true];rw [h.hp.1,k3];rfl,k4⟩
  | false=>
   simp only [Bool.false_eq_true,if_false] at k1;obtain ⟨s',k3,k4⟩:=UH hc h0 k1
   exact ⟨s',by simp only [code,Bool.false_eq_true,if_false];rw [h.hp.1,k3];rfl,k4⟩
 | .seq a d,s,g,ex,g',h,k=>by
  simp only [code] at k;split at k
  ·rename_i g1 hg;obtain ⟨s1,k1,k2⟩:=qx hc h hg
   obtain ⟨s',k3,k4⟩:=qx hc k2 k
   exact ⟨s',by simp only [code,k1,k3],k4⟩
  ·rename_i hne;obtain ⟨s1,k1,k2⟩:=qx hc h k
   refine ⟨s1,?_,k2⟩
   cases ex with
   | normal=>exact absurd k (hne g')
   | exit _=>simp only [code,k1]
   | ret=>simp only [code,k1]
 | .cond x y z,s,g,ex,g',h,k=>by
  simp only [code] at k ⊢
  rw [h.ts];split at k
  ·split at k<;>rename_i hb
   ·simp only [hb,if_true];exact qx hc h k
   ·simp only [hb];exact qx hc h k
  ·cases k
 | .block id p,s,g,ex,g',h,k=>by
  simp only [code] at k;split at k
  ·rename_i j g1 hg;obtain ⟨s1,k1,k2⟩:=qx hc h hg
   simp only [code,k1];split at k<;>cases k<;>rename_i hj
   ·exact ⟨s1,by rw [if_pos hj],k2⟩
   ·exact ⟨s1,by rw [if_neg hj],k2⟩
  ·rename_i hne;obtain ⟨s1,k1,k2⟩:=qx hc h k
   refine ⟨s1,?_,k2⟩
   cases ex with
   | exit j=>exact absurd k (hne j g')
   | normal=>simp only [code,k1]
   | ret=>simp only [code,k1]
 | .loop p,s,g,ex,g',h,k=>by
  simp only [code] at k ⊢
  exact zaG (fun _ _ _ _ h k=>qx hc h k) h k
end
theorem zg4 {s g:St}(h:GhK s g){r:PR}{d:D}(k:YC g r=some d):YC s r=some d:=by
 cases r with
 | tmp t=>simp only [YC,h.ts];exact k
 | cell ag n a=>
  simp only [YC] at k ⊢
  rw [h.ts];split at k
  ·split at k
   ·rename_i hg;obtain ⟨lv',h1,_⟩:=h.hp.row hg
    simp only [h1];exact k
   ·cases k
  ·cases k
theorem Qa {s g:St}(h:GhK s g): ∀ {rs:List PR} {ds:List D},YB g rs=some ds→YB s rs=some ds
 | [],_,k=>k
 | r::rs,ds,k=>by
  simp only [YB,Option.bind_eq_some_iff,Option.map_eq_some_iff] at k ⊢
  obtain ⟨d,k1,ds',k2,k3⟩:=k
  exact ⟨d,zg4 h k1,ds',Qa h k2,k3⟩
theorem Y9 (P:yn): ∀n,Q4 (runN P n)
 | 0=>fun _ _ _ _ _ _ _ k=>by cases k
 | n+1=>fun f a H G d G' h k=>by
  simp only [runN] at k ⊢
  split at k
  ·cases k
  ·rename_i pf hp;split at k
   ·rename_i q ho;simp only [Option.map_eq_some_iff] at k;obtain ⟨d',k1,k2⟩:=k
    cases k2;exact ⟨H,by simp only [k1];rfl,h⟩
   ·rename_i ho;have h0:GhK ⟨a++List.replicate (pf.ntmps-a.length) .undef,H⟩ ⟨a++List.replicate (pf.ntmps-a.length) .undef,G⟩:=⟨rfl,h⟩
    split at k
    ·rename_i g1 hg;obtain ⟨s1,k1,k2⟩:=qx (Y9 P n) h0 hg
     simp only [Option.map_eq_some_iff] at k;obtain ⟨d',k3,k4⟩:=k
     cases k4;simp only [jQ,Option.map_eq_some_iff] at k3;obtain ⟨ds,k5,k6⟩:=k3
     refine ⟨s1.hp,?_,k2.hp⟩
     simp only [k1,jQ,Qa k2 k5,Option.map_some,k6]
    ·rename_i g1 hg;obtain ⟨s1,k1,k2⟩:=qx (Y9 P n) h0 hg
     simp only [Option.map_eq_some_iff] at k;obtain ⟨d',k3,k4⟩:=k
     cases k4;simp only [jQ,Option.map_eq_some_iff] at k3;obtain ⟨ds,k5,k6⟩:=k3
     refine ⟨s1.hp,?_,k2.hp⟩
     simp only [k1,jQ,Qa k2 k5,Option.map_some,k6]
    ·cases k
theorem Ends.gh {pr:yn}{c:PC}{s g:St}{Q:Ex→St→Prop}(h:GhK s g)(k:Ends pr c g Q):Ends pr c s (fun ex s'=> ∃g',GhK s' g'∧Q ex g'):=by
 obtain ⟨n,ex,g',k1,k2⟩:=k
 obtain ⟨s',k3,k4⟩:=qx (Y9 pr n) h k1
 exact ⟨n,ex,s',k3,g',k4,k2⟩
section
variable {S:Nat→Type} [Sg:Sig S] {ρ ρ':Rho} {H H':zf} {fr:Fr} {b N:Nat} {t:TS S} {s:St} {α:Type}
def fz1 (o n:Nat)(e:Code)(l:List (T S e)):Val S→Val S
 | .whole q p=>(match Nat.beq q o,p with
  | true,[]=> .one (n+1) (.list e) l
  | true,_=> .undef
  | false,p=> .whole q p)
 | .win q p off len=>(match Nat.beq q o,p with
  | true,[]=> .one (n+1) (.list e) ((l.drop off).take len)
  | true,_=> .undef
  | false,p=> .win q p off len)
 | .ptr q p i j=>(match Nat.beq q o with
  | true=> .undef
  | false=> .ptr q p i j)
 | .pa q j z len=>(match Nat.beq q o with
  | true=> .undef
  | false=> .pa q j z len)
 | v=>v
def fzV (o n:Nat)(e:Code)(l:List (T S e)):Val S→Val S
 | .agg vs=> .agg (vs.map (fz1 o n e l))
 | .tup vs=> .tup (vs.map fun v=>match v with
  | .agg vs=> .agg (vs.map (fz1 o n e l))
  | v=>fz1 o n e l v)
 | v=>fz1 o n e l v
def fzO (o n:Nat)(e:Code)(l:List (T S e)):Obj S→Obj S
 | .box pn vs=> .box pn (vs.map (fz1 o n e l))
 | ob=>ob
def fzS (o n:Nat)(e:Code)(l:List (T S e)):List (Nat×Val S)→List (Nat×Val S)
 | []=> []
 | (i,v)::E=>(i,fzV o n e l v)::fzS o n e l E
def fzH (o n:Nat)(e:Code)(l:List (T S e)):List (Nat×Obj S)→List (Nat×Obj S)
 | []=> []
 | (i,v)::E=>match Nat.beq i o with
  | true=>fzH o n e l E
  | false=>(i,fzO o n e l v)::fzH o n e l E
def zgE:Code→Nat→Nat
 | .int _,_=>1
 | .bool,_=>1
 | .str,_=>1
 | _,n=>n
theorem zw.low {n:Nat}: ∀ {e:Code} {q:List Nat→Option (Option Nat)} {l:List (T S e)},zw H n e q l→zw H (zgE e n) e q l
 | .int k,q,l,h=>qe.ext (fun _ _ h=>h) (fun _ _ _=>rfl) (fun i v ds _ (h:zg (Cl H n) [D.int k v] ds)=>show zg (Cl H 1) [D.int k v] ds from h.mono fun _ _ e h=>by
   cases e with
   | head=>rw [h.sc rfl];exact Cl.plain rfl rfl
   | tail _ e=>cases e) h
 | .bool,q,l,h=>qe.ext (fun _ _ h=>h) (fun _ _ _=>rfl) (fun i v ds _ (h:zg (Cl H n) [D.bool v] ds)=>show zg (Cl H 1) [D.bool v] ds from h.mono fun _ _ e h=>by
   cases e with
   | head=>rw [h.sc rfl];exact Cl.plain rfl rfl
   | tail _ e=>cases e) h
 | .str,q,l,h=>qe.ext (fun _ _ h=>h) (fun _ _ _=>rfl) (fun i v ds _ (h:zg (Cl H n) [D.str v] ds)=>show zg (Cl H 1) [D.str v] ds from h.mono fun _ _ e h=>by
   cases e with
   | head=>rw [h.sc rfl];exact Cl.plain rfl rfl
   | tail _ e=>cases e) h
 | .own _,_,_,h | .flt,_,_,h | .list _,_,_,h | .arr _ _,_,_,h | .st _,_,_,h=>h
def TS.freeze (t:TS S)(o:Nat):Option (TS S):=match look t.hp o with
 | some (.row n e l)=>(match zW e,Nat.blt 0 (W (S:=S) e) with
  | false,true=>some { t with sl:=fzS o (zgE e n) e l t.sl,hp:=fzH o (zgE e n) e l t.hp,gh:=true }
  | _,_=>none)
 | _=>none
section
variable {o n:Nat} {e:Code} {l:List (T S e)}
theorem zaI: ∀ {E:List (Nat×Val S)} {i:Nat} {v:Val S},look (fzS o n e l E) i=some v→ ∃w,look E i=some w∧v=fzV o n e l w
 | [],_,_,h=>nomatch h
 | (k,w)::E,i,v,h=>by
  simp only [fzS,look] at h ⊢
  split at h
  ·cases h;exact ⟨w,rfl,rfl⟩
  ·exact zaI h
theorem XQ: ∀ {E:List (Nat×Obj S)} {i:Nat} {v:Obj S},look (fzH o n e l E) i=some v→i≠o∧ ∃w,look E i=some w∧v=fzO o n e l w
 | [],_,_,h=>nomatch h
 | (k,w)::E,i,v,h=>by
  simp only [fzH] at h;split at h
  ·rename_i q;obtain ⟨h1,u,h2,h3⟩:=XQ h
   refine ⟨h1,u,?_,h3⟩
   have:Nat.beq k i=false:=ZS fun z=>h1 (z.symm.trans (Nat.eq_of_beq_eq_true q))
   simp only [look,this,h2]
  ·rename_i q;simp only [look] at h ⊢
   split at h
   ·rename_i z
    cases h;have:=Nat.eq_of_beq_eq_true z
    subst this;exact ⟨ja q,w,rfl,rfl⟩
   ·exact XQ h
structure Fz (ρ:Rho) (H H':zf) (o n:Nat) (e:Code) (l:List (T S e)):Prop where
 x:Ext (del ρ o) H (del ρ o) H'
 w: ∀d,VS (S:=S) ρ H (.whole o []) d→Cl H' (n+1) (.lst (W (S:=S) e) (l.map (en e))) d
 c: ∀off len d,VS (S:=S) ρ H (.win o [] off len) d→Cl H' (n+1) (.lst (W (S:=S) e) (((l.drop off).take len).map (en e))) d
theorem Fz.v1 (f:Fz ρ H H' o n e l){v:Val S}{d:D}(h:VR1 ρ H v d):VC (del ρ o) H' (fz1 o n e l v) [d]:=by
 have other: ∀ {v:Val S} {d:D},Vp (isO o) v=false→(∀n c x,v ≠ .one n c x)→VR1 ρ H v d→VC (del ρ o) H' v [d]:=by
  intro v d hm hn h;have:=(VR1.cut hm h).ext f.x
  cases v with
  | one n c x=>exact absurd rfl (hn n c x)
  | _=>exact ⟨d,rfl,this⟩
 cases v with
 | one _ _ _=>exact h.elim
 | agg _=>exact h.elim
 | tup _=>exact h.elim
 | whole q p=>
  simp only [fz1];split
  ·rename_i hq;obtain rfl:=Nat.eq_of_beq_eq_true hq
   exact ⟨f.w d h,trivial⟩
  ·exact ⟨d,rfl,trivial⟩
  ·rename_i hq;exact other hq (fun _ _ _ e=>nomatch e) h
 | win q p off len=>
  simp only [fz1];split
  ·rename_i hq;obtain rfl:=Nat.eq_of_beq_eq_true hq
   exact ⟨f.c off len d h,trivial⟩
  ·exact ⟨d,rfl,trivial⟩
  ·rename_i hq;exact other hq (fun _ _ _ e=>nomatch e) h
 | ptr q p i j=>
  simp only [fz1];split
  ·exact ⟨d,rfl,trivial⟩
  ·rename_i hq;exact other hq (fun _ _ _ e=>nomatch e) h
 | pa q j z len=>
  simp only [fz1];split
  ·exact ⟨d,rfl,trivial⟩
  ·rename_i hq;exact other hq (fun _ _ _ e=>nomatch e) h
 | _=>exact other rfl (fun _ _ _ e=>nomatch e) h
theorem Fz.vc (f:Fz ρ H H' o n e l){v:Val S}{ds:List D}(h:VC ρ H v ds):VC (del ρ o) H' (fz1 o n e l v) ds:=by
 cases v with
 | one m c x=>exact qb f.x.hle h
 | _=>obtain ⟨d,rfl,h⟩:=h;exact f.v1 h
theorem Fz.vcs (f:Fz ρ H H' o n e l): ∀ {vs:List (Val S)} {ds:List D},VCs ρ H vs ds→VCs (del ρ o) H' (vs.map (fz1 o n e l)) ds
 | [],_,h=>h
 | _::_,_,⟨a,b,e',h,k⟩=>⟨a,b,e',f.vc h,Fz.vcs f k⟩
theorem VC.toVSx {v:Val S}{d:D}(h:VC ρ H v [d])(hv: ∀n c x,v= .one n c x→isAgg c=false):VSx ρ H v d:=by
 cases v with
 | one n c x=>simp only [VSx,hv n c x rfl];exact h
 | agg _=>obtain ⟨_,_,h⟩:=h;exact h.elim
 | tup _=>obtain ⟨_,_,h⟩:=h;exact h.elim
 | _=>obtain ⟨d',e,h⟩:=h;cases e;exact h
theorem Fz.vsx (f:Fz ρ H H' o n e l){v:Val S}{d:D}(h:VSx ρ H v d):VSx (del ρ o) H' (match v with
  | .agg vs=> .agg (vs.map (fz1 o n e l))
  | v=>fz1 o n e l v) d:=by
 have key: ∀ {v:Val S},(∀n c x,v ≠ .one n c x)→VR1 ρ H v d→VSx (del ρ o) H' (fz1 o n e l v) d:=by
  intro v hn h;refine VC.toVSx (f.v1 h) fun m c x hx=> ?_
  cases v with
  | one m' c' x'=>exact absurd rfl (hn m' c' x')
  | whole q p=>simp only [fz1] at hx;split at hx<;>cases hx;rfl
  | win q p off len=>simp only [fz1] at hx;split at hx<;>cases hx;rfl
  | ptr q p i j=>simp only [fz1] at hx;split at hx<;>cases hx
  | pa q j z len=>simp only [fz1] at hx;split at hx<;>cases hx
  | _=>cases hx
 cases v with
 | agg vs=>exact let ⟨ds,e',h⟩:=h; ⟨ds,e',f.vcs h⟩
 | one m c x=>exact VSx.ext (v:= .one m c x) ⟨f.x.hle,fun o p x h=>h,f.x.row⟩ (VSx.cut (P:=isO o) (v:= .one m c x) rfl h)
 | _=>exact key (fun _ _ _ e=>nomatch e) h
theorem Fz.vs (f:Fz ρ H H' o n e l){v:Val S}{d:D}(h:VS ρ H v d):VS (del ρ o) H' (fzV o n e l v) d:=by
 cases v with
 | tup vs=>
  obtain ⟨ds,e',h⟩:=h
  refine ⟨ds,e',?_⟩
  clear e'
  induction vs generalizing ds with
  | nil=>cases ds<;>exact h
  | cons v vs ih=>
   cases ds with
   | nil=>exact h
   | cons d ds=>exact ⟨f.vsx h.1,ih ds h.2⟩
 | agg vs=>exact (f.vsx (v:= .agg vs) h).toVS
 | _=>simp only [VS] at h;exact (f.vsx h).toVS
end
def Rel (fr:Fr)(b N:Nat)(t:TS S)(s:St):Prop:= ∃g ρ,GhK s g∧zc fr b N ρ t g
theorem zc.shut (h:zc fr b N ρ t s){o:Nat}{t':TS S}(ht:t.freeze o=some t'): ∃g,GhK s g∧zc fr b N (del ρ o) t' g:=by
 unfold TS.freeze at ht;split at ht
 ·rename_i n0 e l ho;split at ht
  ·rename_i he hw
   cases ht;have hw:0<W (S:=S) e:=by simpa using hw
   generalize hn:zgE e n0=n
   have hrw:zw s.hp n e (ρ o) l:=by
    rw [←hn];exact zw.low (show zw s.hp n0 e (ρ o) l from h.hp _ _ ho)
   have fin: ∀g:St,GhK s g→g.ts=s.ts→Fz ρ s.hp g.hp o n e l→(∀o' p id,del ρ o o' p=some (some id)→hat g.hp id=hat s.hp id)→(∀j,hat s.hp j= .fresh→hat g.hp j= .fresh)→(∀id k,fr id=some k→hat g.hp id=hat s.hp id)→g.hp.length=s.hp.length →
     zc fr b N (del ρ o) { t with sl:=fzS o n e l t.sl,hp:=fzH o n e l t.hp,gh:=true } g:=by
    intro g hg hts f hk hfresh hfr hlen;refine ⟨by rw [hts];exact h.len,fun i v hv=> ?_,fun q ob hq=> ?_,fun o1 p o2 p' id h1 h2=>h.inj _ _ _ _ _ (qA h1).2 (qA h2).2,fun o1 p id h1=> ?_,fun q p hq=> ?_,fun id k hk'=> ?_,h.avl.1,fun r hr=> ?_⟩
    ·obtain ⟨w,h1,rfl⟩:=zaI hv
     rw [hts];exact f.vs (h.sl _ _ h1)
    ·obtain ⟨h1,w,h2,rfl⟩:=XQ hq
     have h3:=h.hp _ _ h2
     cases w with
     | row n' e' l'=>exact zw.ext f.x.hle (fun p x hx=>by rw [QX h1];exact hx) (fun p id hp=>hk q p id (by rw [QX h1];exact hp)) h3
     | box pn vs=>
      obtain ⟨id,ds,k1,k2,k3,k9⟩:=h3
      have k4:=f.vcs k3
      refine ⟨id,ds,by rw [QX h1];exact k1,?_,k4,k9⟩
      rw [hk q [] id (by rw [QX h1];exact k1),k2,←k3.len,←k4.len]
    ·obtain ⟨k1,sz,es,k2⟩:=h.liv _ _ _ (qA h1).2
     exact ⟨k1,sz,es,by rw [hk _ _ _ h1];exact k2⟩
    ·have:=h.nxt q p hq
     simp only [del,yc];split
     ·rfl
     ·exact this
    ·obtain ⟨k1,k2⟩:=h.frm _ _ hk'
     exact ⟨by rw [hfr _ _ hk'];exact k1,by rw [hlen];exact k2⟩
    ·obtain ⟨k1,k2,k3⟩:=h.avl.2 r hr
     exact ⟨hfresh _ k1,by rw [hlen];exact k2,k3⟩
   rcases zw.els he hrw with ⟨q1,q2⟩ | ⟨id,es,q1,q2,q3⟩
   ·refine ⟨s,GhK.refl s,fin s (GhK.refl s) rfl ⟨Ext.refl _ _,fun d hd=> ?_,fun off len d hd=> ?_⟩ (fun _ _ _ _=>rfl) (fun _ h=>h) (fun _ _ _=>rfl) rfl⟩
    ·rcases hd with ⟨_,_,_,c1,_⟩ | ⟨_,rfl⟩
     ·rw [q1] at c1;cases c1
     ·rw [q2];exact Cl.plain rfl Nr.mk_nil
    ·rcases hd with ⟨_,_,_,c1,_⟩ | ⟨_,_,_,rfl⟩
     ·rw [q1] at c1;cases c1
     ·rw [q2,List.drop_nil,List.take_nil];exact Cl.plain rfl Nr.mk_nil
   ·have hlt:id<s.hp.length:=yB (by rw [q2];simp)
    have hid: ∀r p,del ρ o r p≠some (some id):=fun r p e=>by
     obtain ⟨z1,z3⟩:=qA e
     exact z1 (h.inj _ _ _ _ _ z3 q1).1
    have hf:hat (s.hp.modify id freeze) id= .row (W (S:=S) e) es false:=by rw [Ym,if_pos rfl,q2];rfl
    have hne: ∀j,j≠id→hat (s.hp.modify id freeze) j=hat s.hp j:=fun j hj=>by rw [Ym,if_neg hj]
    have hle:HLe s.hp (s.hp.modify id freeze):=fun j sz es' hj=>by
     rw [Ym];split
     ·rw [hj];rfl
     ·exact hj
    have hx:Ext (del ρ o) s.hp (del ρ o) (s.hp.modify id freeze):=⟨hle,fun _ _ _ h=>h,fun o' p id' sz es' k1 k2=>⟨es',by rw [hne _ (fun e=>by subst e;exact hid _ _ k1)];exact k2,rfl⟩⟩
    have hlen: ∀d∈es,d.length≤W (S:=S) e:=fun d hd=>by
     obtain ⟨i,hi,rfl⟩:=List.mem_iff_getElem.mp hd
     obtain ⟨d',h1,h2⟩:=q3.2 i (l[i]'(by rw [←q3.1];exact hi)) (List.getElem?_eq_getElem _)
     rw [List.getElem?_eq_getElem hi] at h1
     cases h1;rw [←h2.len,yT];exact Nat.le_refl _
    have hels: ∀off len,zg (zg (Cl (s.hp.modify id freeze) n)) (((l.drop off).take len).map (en e)) ((es.drop off).take len):=fun off len=>by
     have:=((q3.mono (Nat.le_refl _) hle).drop off).take len
     refine zg.of (by rw [List.length_map];exact this.1.symm) (fun i a d ha hd'=> ?_)
     rw [List.getElem?_map,Option.map_eq_some_iff] at ha;obtain ⟨z,hz,rfl⟩:=ha
     obtain ⟨d',h1,h2⟩:=this.2 i z hz
     rw [hd'] at h1
     cases h1;exact h2
    have hgh:GhK s ⟨s.ts,s.hp.modify id freeze⟩:=⟨rfl,by simp,fun j=>by
     by_cases e:j=id
     ·subst e;exact .inr (.inl ⟨_,_,q2,hf⟩)
     ·exact .inl (hne j e)⟩
    refine ⟨⟨s.ts,s.hp.modify id freeze⟩,hgh,fin _ hgh rfl ⟨hx,fun d hd=> ?_,fun off len d hd=> ?_⟩ (fun o' p id' k1=>hne _ (fun e=>by subst e;exact hid _ _ k1)) (fun j hj=>by rw [hne j (fun e=>by subst e;rw [q2] at hj;cases hj)];exact hj) (fun j k hk=>hne j (fun e=>by subst e;rw [(h.liv _ _ _ q1).1] at hk;cases hk)) (by simp)⟩
    ·rcases hd with ⟨id',sz,es',c1,c2,rfl⟩ | ⟨c1,_⟩<;>rw [q1] at c1<;>cases c1
     rw [q2] at c2;cases c2;refine .inr (.inl ⟨_,_,id,0,es.length,es,rfl,rfl,hf,by simp,?_,hw,hlen⟩)
     have:=hels 0 es.length
     rw [List.drop_zero,List.take_of_length_le (by rw [q3.1];exact Nat.le_refl _)] at this
     exact this
    ·rcases hd with ⟨id',sz,es',c1,c2,c3,rfl⟩ | ⟨c1,_⟩<;>rw [q1] at c1<;>cases c1
     rw [q2] at c2;cases c2;exact .inr (.inl ⟨_,_,id,off,len,es,rfl,rfl,hf,c3,hels off len,hw,hlen⟩)
  ·cases ht
 ·cases ht
def TS.freezeN (t:TS S)(o:Nat):Option (TS S):=match look t.hp o with
 | some (.row n (.own e) l)=>(match zW e,Nat.blt 0 (W (S:=S) e) with
  | false,true=>some { ((t.clear2 (P3 o) (Q3 o)).setO o (.row (n+1) (.list e) l)) with gh:=true }
  | _,_=>none)
 | _=>none
theorem zc.tell (h:zc fr b N ρ t s){o:Nat}{ob:Obj S}(hob:qn fr ρ s.hp o ob):zc fr b N ρ (t.setO o ob) s:=
 ⟨h.len,h.sl,fun o' ob' ho=>by
  rcases XP ho with ⟨rfl,rfl⟩ | ⟨_,ho⟩
  ·exact hob
  ·exact h.hp _ _ ho,h.inj,h.liv,h.nxt,h.frm,h.avl⟩
theorem zc.sub (h:zc fr b N ρ t s){H':zf}(hle:HLe s.hp H')(hl:H'.length=s.hp.length)(hk: ∀o p id,ρ o p=some (some id)→hat H' id=hat s.hp id)(hf: ∀j,hat s.hp j= .fresh→hat H' j= .fresh)(hfr: ∀id k,fr id=some k→hat H' id=hat s.hp id):zc fr b N ρ t ⟨s.ts,H'⟩:=by
 have hx:Ext ρ s.hp ρ H':=⟨hle,fun _ _ _ h=>h,fun o p id sz es k1 k2=>⟨es,by rw [hk _ _ _ k1];exact k2,rfl⟩⟩
 refine ⟨h.len,fun i v hv=>(h.sl i v hv).ext hx,fun o ob ho=>qn.ext hx (fun p id k=>hk _ _ _ k) (h.hp _ _ ho),h.inj,fun o p id k=> ?_,h.nxt,fun id k hk'=> ?_,h.avl.1,fun r hr=> ?_⟩
 ·obtain ⟨k1,sz,es,k2⟩:=h.liv _ _ _ k
  exact ⟨k1,sz,es,by show hat H' id=_;rw [hk _ _ _ k];exact k2⟩
 ·obtain ⟨k1,k2⟩:=h.frm _ _ hk'
  exact ⟨by show hat H' id=_;rw [hfr _ _ hk'];exact k1,by show id<H'.length;rw [hl];exact k2⟩
 ·obtain ⟨k1,k2,k3⟩:=h.avl.2 r hr
  exact ⟨hf _ k1,by show _<H'.length;rw [hl];exact k2,k3⟩
open Classical in
noncomputable def JO (H:zf)(P:Nat→Prop):zf:=(List.range H.length).map fun j=>if P j then freeze (hat H j) else hat H j
open Classical in
theorem XS {H:zf}{P:Nat→Prop}{j:Nat}(hj:P j→j<H.length):hat (JO H P) j=if P j then freeze (hat H j) else hat H j:=by
 unfold JO;rcases Nat.lt_or_ge j H.length with q | q
 ·rw [hat,List.getD_eq_getElem?_getD,List.getElem?_map,List.getElem?_range q];rfl
 ·have hp: ¬P j:=fun h=>by have:=hj h;omega
  rw [if_neg hp];simp [hat,List.getD,q]
theorem zc.shutN (h:zc fr b N ρ t s){o:Nat}{t':TS S}(ht:t.freezeN o=some t'): ∃g ρ',GhK s g∧zc fr b N ρ' t' g:=by
 unfold TS.freezeN at ht;split at ht
 ·rename_i n e l ho;split at ht
  ·rename_i he hw
   cases ht;have hw:0<W (S:=S) e:=by simpa using hw
   have hrow:zw s.hp n (.own e) (ρ o) l:=h.hp _ _ ho
   let P:Nat→Prop:=fun j=> ∃i,ρ o [i]=some (some j)
   have hP: ∀j,P j→ ∃sz es,hat s.hp j= .row sz es true:=fun j ⟨i,hi⟩=>(h.liv _ _ _ hi).2
   have hPl: ∀j,P j→j<s.hp.length:=fun j hj=>by
    obtain ⟨sz,es,q⟩:=hP j hj
    exact yB (by rw [q];simp)
   have hh: ∀j,hat (JO s.hp P) j=hat s.hp j ∨ ∃sz es,P j∧hat s.hp j= .row sz es true∧hat (JO s.hp P) j= .row sz es false:=fun j=>by
    rw [XS (hPl j)];split
    ·rename_i hj;obtain ⟨sz,es,q⟩:=hP j hj
     exact .inr ⟨sz,es,hj,q,by rw [q];rfl⟩
    ·exact .inl rfl
   have hin: ∀j,P j→ ∀sz es,hat s.hp j= .row sz es true→hat (JO s.hp P) j= .row sz es false:=fun j hj sz es q=>by
    rw [XS (hPl j),if_pos hj,q];rfl
   have hout: ∀j, ¬P j→hat (JO s.hp P) j=hat s.hp j:=fun j hj=>by rw [XS (hPl j),if_neg hj]
   have hlen:(JO s.hp P).length=s.hp.length:=by simp [JO]
   have hle:HLe s.hp (JO s.hp P):=fun j sz es hj=>by
    rw [hout j (fun hp=>by
     obtain ⟨sz',es',q⟩:=hP j hp
     rw [hj] at q;cases q)]
    exact hj
   have rc:zc fr b N (yc ρ (P3 o)) (t.clear2 (P3 o) (Q3 o)) s:=h.clear2 (fun r p hr=>by
    simp only [Q3] at hr;simp only [P3,hr,Bool.false_and])
   have hcut: ∀ {r p id},yc ρ (P3 o) r p=some (some id)→ ¬P id:=fun {r p id} e ⟨i,hi⟩=>by
    obtain ⟨e1,e2⟩:=zO e
    obtain ⟨rfl,rfl⟩:=h.inj _ _ _ _ _ e2 hi
    simp [P3] at e1
   have r2:zc fr b N (yc ρ (P3 o)) (t.clear2 (P3 o) (Q3 o)) ⟨s.ts,JO s.hp P⟩:=rc.sub hle hlen (fun r p id e=>hout _ (hcut e)) (fun j hj=>by
     rw [hout j (fun hp=>by
      obtain ⟨sz',es',q⟩:=hP j hp
      rw [hj] at q;cases q)]
     exact hj) (fun id k hk=>hout _ (fun ⟨i,hi⟩=>by
      rw [(h.liv _ _ _ hi).1] at hk;cases hk))
   have r3:=r2.tell (o:=o) (ob:= .row (n+1) (.list e) l) (by
    have top0:yc ρ (P3 o) o []=ρ o []:=by simp [yc,P3]
    rcases hrow with ⟨q1,q2⟩ | ⟨id,es,q1,q2,q3,q4⟩
    ·exact .inl ⟨by rw [top0];exact q1,q2⟩
    ·have hnP: ¬P id:=hcut (r:=o) (p:= []) (by rw [top0];exact q1)
     refine .inr ⟨id,es,by rw [top0];exact q1,by show hat (JO s.hp P) id=_;rw [hout _ hnP];exact q2,q3,fun i v hv=> ?_⟩
     obtain ⟨ds,k1,x,k2,k3,k4⟩:=q4 i v hv
     refine ⟨ds,k1,?_⟩
     rw [k3];refine ⟨?_,trivial⟩
     rcases zw.els he k4 with ⟨w1,w2⟩ | ⟨id2,es2,w1,w2,w3⟩
     ·rw [k2] at w1;cases w1;have w2:v= []:=w2
      rw [w2];exact Cl.plain rfl Nr.mk_nil
     ·rw [k2] at w1;cases w1;have hf:=hin id2 ⟨i,k2⟩ _ _ w2
      have hlen2: ∀d∈es2,d.length≤W (S:=S) e:=fun d hd=>by
       obtain ⟨i,hi,rfl⟩:=List.mem_iff_getElem.mp hd
       obtain ⟨d',h1,h2⟩:=w3.2 i ((v:List (T S e))[i]'(by rw [←w3.1];exact hi)) (List.getElem?_eq_getElem _)
       rw [List.getElem?_eq_getElem hi] at h1
       cases h1;rw [←h2.len,yT];exact Nat.le_refl _
      refine .inr (.inl ⟨_,_,id2,0,List.length v,es2,rfl,rfl,hf,by rw [w3.1];exact Nat.le_of_eq (Nat.zero_add _),?_,hw,hlen2⟩)
      rw [List.drop_zero,List.take_of_length_le (by rw [w3.1];exact Nat.le_refl _)]
      have w4:=w3.mono (Nat.le_refl _) hle
      refine zg.of (by rw [List.length_map];exact w4.1.symm) (fun i a d ha hd'=> ?_)
      rw [List.getElem?_map,Option.map_eq_some_iff] at ha;obtain ⟨z,hz,rfl⟩:=ha
      obtain ⟨d',h1,h2⟩:=w4.2 i z hz
      rw [hd'] at h1
      cases h1;exact h2)
   refine ⟨⟨s.ts,JO s.hp P⟩,_,⟨rfl,hlen.symm,fun j=> ?_⟩,⟨r3.len,r3.sl,r3.hp,r3.inj,r3.liv,r3.nxt,r3.frm,r3.avl⟩⟩
   rcases hh j with q | ⟨sz,es,_,q1,q2⟩
   ·exact .inl q
   ·exact .inr (.inl ⟨sz,es,q1,q2⟩)
  ·cases ht
 ·cases ht
end
inductive jZ where
 | un
 | skip
 | nil
 | nilp
 | fn (n:Nat)
 | one (n:Nat) (c:Code)
 | whole (o:Nat)
 | ptr (o j:Nat)
 | fp (n:Nat) (c:Code) (j:Nat)
inductive VSh where
 | b (v:jZ)
 | agg (l:List jZ)
inductive OSh where
 | row (n:Nat) (e:Code)
 | box (pn:Option Nat) (l:List jZ)
structure zo where
 sl:List (Nat×VSh)
 hp:List (Nat×OSh)
 nx:Nat
 gh:Bool
def XE:jZ→List Code→List Code
 | .one _ c,k=>c::k
 | .fp _ c _,k=>c::k
 | _,k=>k
def jr:List jZ→List Code→List Code
 | [],k=>k
 | v::vs,k=>XE v (jr vs k)
def Uo:VSh→List Code→List Code
 | .b v,k=>XE v k
 | .agg l,k=>jr l k
def ZW:List (Nat×VSh)→List Code→List Code
 | [],k=>k
 | (_,v)::vs,k=>Uo v (ZW vs k)
def Up:OSh→List Code→List Code
 | .row _ e,k=> .list e::k
 | .box _ l,k=>jr l k
def js:List (Nat×OSh)→List Code→List Code
 | [],k=>k
 | (_,v)::vs,k=>Up v (js vs k)
def zo.cs (sh:zo):List Code:=ZW sh.sl (js sh.hp [])
section
variable {S:Nat→Type} [Sg:Sig S] {ρ ρ':Rho} {H H':zf} {fr:Fr} {b N:Nat} {t:TS S} {s:St} {α:Type}
def Y3:(v:jZ)→(k:List Code)→Flds S (XE v k)→Val S×Flds S k
 | .un,_,p=>(.undef,p)
 | .skip,_,p=>(.skip,p)
 | .nil,_,p=>(.nil,p)
 | .nilp,_,p=>(.nilp,p)
 | .fn n,_,p=>(.fn n,p)
 | .one n c,_,p=>(.one n c p.1,p.2)
 | .whole o,_,p=>(.whole o [],p)
 | .ptr o j,_,p=>(.ptr o [] 0 j,p)
 | .fp n c j,_,p=>(.fp n c p.1 j,p.2)
def YI:(vs:List jZ)→(k:List Code)→Flds S (jr vs k)→List (Val S)×Flds S k
 | [],_,p=>([],p)
 | v::vs,k,p=>((Y3 v (jr vs k) p).1::(YI vs k (Y3 v (jr vs k) p).2).1,(YI vs k (Y3 v (jr vs k) p).2).2)
def zai:(v:VSh)→(k:List Code)→Flds S (Uo v k)→Val S×Flds S k
 | .b v,k,p=>Y3 v k p
 | .agg l,k,p=>(.agg (YI l k p).1,(YI l k p).2)
def Y2:(vs:List (Nat×VSh))→(k:List Code)→Flds S (ZW vs k)→List (Nat×Val S)×Flds S k
 | [],_,p=>([],p)
 | (i,v)::vs,k,p=>((i,(zai v (ZW vs k) p).1)::(Y2 vs k (zai v (ZW vs k) p).2).1,(Y2 vs k (zai v (ZW vs k) p).2).2)
def Xo:(v:OSh)→(k:List Code)→Flds S (Up v k)→Obj S×Flds S k
 | .row n e,_,p=>(.row n e p.1,p.2)
 | .box pn l,k,p=>(.box pn (YI l k p).1,(YI l k p).2)
def Jo:(vs:List (Nat×OSh))→(k:List Code)→Flds S (js vs k)→List (Nat×Obj S)×Flds S k
 | [],_,p=>([],p)
 | (i,v)::vs,k,p=>((i,(Xo v (js vs k) p).1)::(Jo vs k (Xo v (js vs k) p).2).1,(Jo vs k (Xo v (js vs k) p).2).2)
def qg (sh:zo)(p:Flds S sh.cs):TS S:=
 { sl:=(Y2 sh.sl (js sh.hp []) p).1,hp:=(Jo sh.hp [] (Y2 sh.sl (js sh.hp []) p).2).1,nx:=sh.nx,av:= [],gh:=sh.gh }
abbrev Sgm:=List (Nat×Option Nat)
def Vt (σ:Sgm)(o:Nat)(a:Option Nat):Option Sgm:=match look σ o with
 | none=>some ((o,a)::σ)
 | some a'=>match a',a with
  | some x,some y=>(match Nat.beq x y with
   | true=>some σ
   | false=>none)
  | none,none=>some σ
  | _,_=>none
def Sub (σ σ':Sgm):Prop:= ∀o a,look σ o=some a→look σ' o=some a
theorem Sub.tr {a c d:Sgm}(h:Sub a c)(k:Sub c d):Sub a d:=fun o x q=>k o x (h o x q)
theorem QF {σ σ':Sgm}{o:Nat}{a:Option Nat}(h:Vt σ o a=some σ'):Sub σ σ'∧look σ' o=some a:=by
 unfold Vt at h;split at h
 ·rename_i hn
  cases h;refine ⟨fun q x hx=> ?_,by simp [look]⟩
  simp only [look];split
  ·rename_i e;rw [←Nat.eq_of_beq_eq_true e,hn] at hx
   cases hx
  ·exact hx
 ·rename_i a' ha;split at h
  ·split at h
   ·rename_i e
    cases h;rw [Nat.eq_of_beq_eq_true e] at ha;exact ⟨fun _ _ q=>q,ha⟩
   ·cases h
  ·cases h;exact ⟨fun _ _ q=>q,ha⟩
  ·cases h
abbrev KC1 (S:Nat→Type)(k:List Code):=List (Val S)→Sgm→Option (Flds S k)
def ziV {k:List Code}(n:Nat)(c:Code)(ws:List (Val S))(σ:Sgm)(K:KC1 S k):Option (T S c×Flds S k):=match Xk Xr (W (S:=S) c) ws,Nat.blt 0 n with
 | some q,true=>(match mk n c q.1,K q.2 σ with
  | some x,some p=>some (x,p)
  | _,_=>none)
 | _,_=>none
def cFp {k:List Code}(n:Nat)(c:Code)(j:Nat)(ws:List (Val S))(σ:Sgm)(K:KC1 S k):Option (T S c×Flds S k):=match ws with
 | .fp n' c' x j'::ws=>(match Nat.ble n' n&&Nat.beq j' j,conv c' c x,K ws σ with
  | true,some y,some p=>some (y,p)
  | _,_,_=>none)
 | _=>none
def cUn {k:List Code}(ws:List (Val S))(σ:Sgm)(K:KC1 S k):Option (Flds S k):=match ws with
 | w::ws=>(match Nat.beq (YG w) 1 with
  | true=>K ws σ
  | false=>none)
 | _=>none
def zbE:jZ→Val S→Bool
 | .skip,.skip=>true
 | .nil,.nil=>true
 | .nilp,.nilp=>true
 | .fn n,.fn m=>Nat.beq n m
 | _,_=>false
def cPl {k:List Code}(v:jZ)(ws:List (Val S))(σ:Sgm)(K:KC1 S k):Option (Flds S k):=match ws with
 | w::ws=>(match zbE v w with
  | true=>K ws σ
  | false=>none)
 | _=>none
def cWh {k:List Code}(o:Nat)(ws:List (Val S))(σ:Sgm)(K:KC1 S k):Option (Flds S k):=match ws with
 | .whole a p::ws=>(match p,Vt σ o (some a) with
  | [],some σ'=>K ws σ'
  | _,_=>none)
 | .nil::ws=>(match Vt σ o none with
  | some σ'=>K ws σ'
  | none=>none)
 | _=>none
def cPt {k:List Code}(o j:Nat)(ws:List (Val S))(σ:Sgm)(K:KC1 S k):Option (Flds S k):=match ws with
 | .ptr a p i j'::ws=>(match p,Nat.beq i 0&&Nat.beq j' j,Vt σ o (some a) with
  | [],true,some σ'=>K ws σ'
  | _,_,_=>none)
 | _=>none
def zfD {k:List Code}:(v:jZ)→List (Val S)→Sgm→KC1 S k→Option (Flds S (XE v k))
 | .one n c,ws,σ,K=>ziV n c ws σ K
 | .fp n c j,ws,σ,K=>cFp n c j ws σ K
 | .un,ws,σ,K=>cUn ws σ K
 | .skip,ws,σ,K=>cPl .skip ws σ K
 | .nil,ws,σ,K=>cPl .nil ws σ K
 | .nilp,ws,σ,K=>cPl .nilp ws σ K
 | .fn n,ws,σ,K=>cPl (.fn n) ws σ K
 | .whole o,ws,σ,K=>cWh o ws σ K
 | .ptr o j,ws,σ,K=>cPt o j ws σ K
def Zq {k:List Code}:(vs:List jZ)→List (Val S)→Sgm→(Sgm→Option (Flds S k))→Option (Flds S (jr vs k))
 | [],ws,σ,K=>(match ws with
  | []=>K σ
  | _::_=>none)
 | v::vs,ws,σ,K=>zfD v ws σ fun ws σ=>Zq vs ws σ K
def Vm:Val S→Option (Bool×List (Val S))
 | .agg vs=>some (true,vs)
 | .tup _=>none
 | .one n c v=>some (isAgg c,[.one n c v])
 | v=>some (false,[v])
def zob:VSh→Bool×List jZ
 | .b (.one n c)=>(isAgg c,[.one n c])
 | .b v=>(false,[v])
 | .agg l=>(true,l)
def zdp:Bool→Bool→Bool
 | true,true=>true
 | false,false=>true
 | _,_=>false
def zbP {k:List Code}(v:VSh)(w:Val S)(σ:Sgm)(K:Sgm→Option (Flds S k)):Option (Flds S (Uo v k)):=match Vm w with
 | some (f,ws)=>match v with
  | .b v=>(match zdp f (zob (.b v)).1 with
   | true=>Zq (k:=k) [v] ws σ K
   | false=>none)
  | .agg l=>(match f with
   | true=>Zq (k:=k) l ws σ K
   | false=>none)
 | none=>none
def Uq (t:TS S){k:List Code}:(vs:List (Nat×VSh))→Sgm→(Sgm→Option (Flds S k))→Option (Flds S (ZW vs k))
 | [],σ,K=>K σ
 | (i,v)::vs,σ,K=>match look t.sl i with
  | some w=>zbP v w σ fun σ'=>Uq t vs σ' K
  | none=>none
def ziU (t:TS S){k:List Code}(n:Nat)(e:Code)(o:Nat)(σ:Sgm)(K:Sgm→Option (Flds S k)):Option (List (T S e)×Flds S k):=match look σ o with
 | some (some a)=>(match look t.hp a with
  | some (.row n' e' l)=>(match Nat.ble n' n,Vs e' e l,K σ with
   | true,some m,some p=>some (m,p)
   | _,_,_=>none)
  | _=>none)
 | some none=>(match K σ with
  | some p=>some ([],p)
  | none=>none)
 | none=>none
def eqO:Option Nat→Option Nat→Bool
 | none,none=>true
 | some a,some b=>Nat.beq a b
 | _,_=>false
theorem zkk {a b:Option Nat}(h:eqO a b=true):a=b:=by
 cases a<;>cases b<;>first | rfl | cases h | exact congrArg some (Nat.eq_of_beq_eq_true h)
def zeT (pn:Option Nat):List (Nat×Obj S)→Option Nat
 | []=>none
 | (a,.box q _)::l=>(match eqO q pn with
  | true=>some a
  | false=>zeT pn l)
 | _::l=>zeT pn l
def zcw (t:TS S){k:List Code}(pn':Option Nat)(l:List jZ)(a:Nat)(σ:Sgm)(K:Sgm→Option (Flds S k)):Option (Flds S (jr l k)):=match look t.hp a with
 | some (.box pn vs)=>(match eqO pn pn' with
  | true=>Zq l vs σ K
  | false=>none)
 | _=>none
def ziW (t:TS S){k:List Code}(pn':Option Nat)(l:List jZ)(o:Nat)(σ:Sgm)(K:Sgm→Option (Flds S k)):Option (Flds S (jr l k)):=match look σ o with
 | some (some a)=>zcw t pn' l a σ K
 | some none=>none
 | none=>(match pn',zeT pn' t.hp with
  | some _,some a=>(match Vt σ o (some a) with
   | some σ'=>zcw t pn' l a σ' K
   | none=>none)
  | _,_=>none)
def zfC (t:TS S){k:List Code}:(v:OSh)→(o:Nat)→Sgm→(Sgm→Option (Flds S k))→Option (Flds S (Up v k))
 | .row n e,o,σ,K=>ziU t n e o σ K
 | .box pn l,o,σ,K=>ziW t pn l o σ K
def Us (t:TS S){k:List Code}:(vs:List (Nat×OSh))→Sgm→(Sgm→Option (Flds S k))→Option (Flds S (js vs k))
 | [],σ,K=>K σ
 | (o,v)::vs,σ,K=>zfC t v o σ fun σ'=>Us t vs σ' K
def zgF:Sgm→Bool
 | []=>true
 | (o,a)::σ=>(match a with
  | some x=>σ.all fun p=>match p.2 with
   | some y => !Nat.beq x y
   | none=>true
  | none=>true)&&zgF σ
def zkI (sh:zo)(t:TS S)(σ:Sgm):Bool:=zgF σ&&(σ.all fun p=>Nat.blt p.1 sh.nx)&&(sh.gh || !t.gh)
def jK (sh:zo)(t:TS S):Option (Flds S sh.cs):=
 Uq t sh.sl [] fun σ=>Us t sh.hp σ fun σ'=>match zkI sh t σ' with
  | true=>some ()
  | false=>none
end
section
variable {S:Nat→Type} [Sg:Sig S] {ρ ρ':Rho} {H H':zf} {fr:Fr} {b N:Nat} {t:TS S} {s:St} {α:Type}
def jG (ρ ρ':Rho)(σ:Sgm):Prop:= ∀o a,look σ o=some a→match a with
 | some a=> ∀p,ρ' o p=ρ a p
 | none=>ρ' o []=some none
theorem jG.sub {σ σ':Sgm}(h:jG ρ ρ' σ')(k:Sub σ σ'):jG ρ ρ' σ:=fun o a q=>h o a (k o a q)
theorem VCs.single {v:Val S}{ds:List D}(h:VC ρ H v ds):VCs ρ H [v] ds:=⟨ds,[],(List.append_nil _).symm,h,rfl⟩
theorem zhE {k:List Code}{n:Nat}{c:Code}{ws:List (Val S)}{σ:Sgm}{K:KC1 S k}{p:T S c×Flds S k}(h:ziV n c ws σ K=some p) :
  ∃ws',K ws' σ=some p.2∧ ∀ds,VCs ρ H ws ds→ ∃a b,ds=a++b∧zg (Cl H n) (en c p.1) a∧VCs ρ H ws' b:=by
 unfold ziV at h;split at h
 ·rename_i q hq hn;split at h
  ·rename_i x p' hx hp
   cases h;refine ⟨q.2,hp,fun ds hd=> ?_⟩
   obtain ⟨d,e,rfl,h1,h2,h3⟩:=jf (a:=q.1) (b:=q.2) hq hd
   exact ⟨d,e,rfl,Jq (by simpa using hn) hx h2,h3⟩
  ·cases h
 ·cases h
theorem zks {k:List Code}{n j:Nat}{c:Code}{ws:List (Val S)}{σ:Sgm}{K:KC1 S k}{p:T S c×Flds S k}(h:cFp n c j ws σ K=some p) :
  ∃ws',K ws' σ=some p.2∧ ∀ds,VCs ρ H ws ds→ ∃a b,ds=a++b∧(∃d,a= [d]∧ ∃r,Cl H n (.fptr ((en c p.1).drop j++r)) d)∧VCs ρ H ws' b:=by
 unfold cFp at h;split at h
 ·rename_i n' c' x j' ws;split at h
  ·rename_i y p' hb hc hp
   cases h;simp only [Bool.and_eq_true] at hb;refine ⟨ws,hp,fun ds hd=> ?_⟩
   obtain ⟨a,a',rfl,⟨d,rfl,r,h1⟩,h2⟩:=hd
   obtain rfl:=Nat.eq_of_beq_eq_true hb.2
   exact ⟨[d],a',rfl,⟨d,rfl,r,by rw [(jJ hc).1];exact h1.up (Nat.le_of_ble_eq_true hb.1)⟩,h2⟩
  ·cases h
 ·cases h
theorem zkp {k:List Code}{ws:List (Val S)}{σ:Sgm}{K:KC1 S k}{p:Flds S k}(h:cUn ws σ K=some p) :
  ∃ws',K ws' σ=some p∧ ∀ds,VCs ρ H ws ds→ ∃a b,ds=a++b∧(∃d,a= [d])∧VCs ρ H ws' b:=by
 unfold cUn at h;split at h
 ·rename_i w ws;split at h
  ·rename_i hw;refine ⟨ws,h,fun ds hd=> ?_⟩
   obtain ⟨a,a',rfl,h1,h2⟩:=hd
   have hl:=h1.len
   rw [Nat.eq_of_beq_eq_true hw] at hl;match a,hl with
   | [d],_=>exact ⟨[d],a',rfl,⟨d,rfl⟩,h2⟩
  ·cases h
 ·cases h
def zek:jZ→Val S
 | .skip=> .skip
 | .nil=> .nil
 | .nilp=> .nilp
 | .fn n=> .fn n
 | _=> .undef
theorem zdJ {v:jZ}{w:Val S}(h:zbE v w=true):w=zek v∧ ∀ρ' d,VR1 ρ H w d→VR1 ρ' H (zek (S:=S) v) d:=by
 unfold zbE at h;split at h
 ·exact ⟨rfl,fun _ _ h=>h⟩
 ·exact ⟨rfl,fun _ _ h=>h⟩
 ·exact ⟨rfl,fun _ _ h=>h⟩
 ·obtain rfl:=Nat.eq_of_beq_eq_true h
  exact ⟨rfl,fun _ _ h=>h⟩
 ·cases h
theorem zkr {k:List Code}{v:jZ}{ws:List (Val S)}{σ:Sgm}{K:KC1 S k}{p:Flds S k}(h:cPl v ws σ K=some p) :
  ∃ws',K ws' σ=some p∧ ∀ρ' ds,VCs ρ H ws ds→ ∃a b,ds=a++b∧(∃d,a= [d]∧VR1 ρ' H (zek (S:=S) v) d)∧VCs ρ H ws' b:=by
 unfold cPl at h;split at h
 ·rename_i w ws;split at h
  ·rename_i hw;refine ⟨ws,h,fun ρ' ds hd=> ?_⟩
   obtain ⟨a,a',rfl,h1,h2⟩:=hd
   obtain ⟨rfl,h3⟩:=zdJ (ρ:=ρ) (H:=H) hw
   have: ∃d,a= [d]∧VR1 ρ H (zek (S:=S) v) d:=by
    cases v<;>exact h1
   obtain ⟨d,rfl,h4⟩:=this
   exact ⟨[d],a',rfl,⟨d,rfl,h3 ρ' d h4⟩,h2⟩
  ·cases h
 ·cases h
theorem zko {k:List Code}{o:Nat}{ws:List (Val S)}{σ:Sgm}{K:KC1 S k}{p:Flds S k}(h:cWh o ws σ K=some p) :
  ∃ws' σ',Sub σ σ'∧K ws' σ'=some p∧ ∀ρ',jG ρ ρ' σ'→ ∀ds,VCs ρ H ws ds→ ∃a b,ds=a++b∧(∃d,a= [d]∧VR1 (S:=S) ρ' H (.whole o []) d)∧VCs ρ H ws' b:=by
 unfold cWh at h;split at h
 ·rename_i a p' ws;split at h
  ·rename_i σ1 hb;obtain ⟨b1,b2⟩:=QF hb
   refine ⟨ws,σ1,b1,h,fun ρ' ha ds hd=> ?_⟩
   obtain ⟨a0,a',rfl,⟨d,rfl,h1⟩,h2⟩:=hd
   have hag:=ha o _ b2
   refine ⟨[d],a',rfl,⟨d,rfl,?_⟩,h2⟩
   simp only [VR1,hag];exact h1
  ·cases h
 ·rename_i ws;split at h
  ·rename_i σ1 hb;obtain ⟨b1,b2⟩:=QF hb
   refine ⟨ws,σ1,b1,h,fun ρ' ha ds hd=> ?_⟩
   obtain ⟨a0,a',rfl,⟨d,rfl,h1⟩,h2⟩:=hd
   exact ⟨[d],a',rfl,⟨d,rfl,.inr ⟨ha o _ b2,h1⟩⟩,h2⟩
  ·cases h
 ·cases h
theorem zkq {k:List Code}{o j:Nat}{ws:List (Val S)}{σ:Sgm}{K:KC1 S k}{p:Flds S k}(h:cPt o j ws σ K=some p) :
  ∃ws' σ',Sub σ σ'∧K ws' σ'=some p∧ ∀ρ',jG ρ ρ' σ'→ ∀ds,VCs ρ H ws ds→ ∃a b,ds=a++b∧(∃d,a= [d]∧VR1 (S:=S) ρ' H (.ptr o [] 0 j) d)∧VCs ρ H ws' b:=by
 unfold cPt at h;split at h
 ·rename_i a p' i j' ws;split at h
  ·rename_i σ1 hb0 hb;simp only [Bool.and_eq_true] at hb0;obtain ⟨b1,b2⟩:=QF hb
   refine ⟨ws,σ1,b1,h,fun ρ' ha ds hd=> ?_⟩
   obtain ⟨a0,a',rfl,⟨d,rfl,h1⟩,h2⟩:=hd
   have hag:=ha o _ b2
   obtain rfl:=Nat.eq_of_beq_eq_true hb0.1
   obtain rfl:=Nat.eq_of_beq_eq_true hb0.2
   refine ⟨[d],a',rfl,⟨d,rfl,?_⟩,h2⟩
   simp only [VR1,hag];exact h1
  ·cases h
 ·cases h
theorem zd4 {k:List Code}{v:jZ}{ws:List (Val S)}{σ:Sgm}{K:KC1 S k}{p:Flds S (XE v k)}(h:zfD v ws σ K=some p) :
  ∃ws' σ' q,Sub σ σ'∧K ws' σ'=some q∧(Y3 v k p).2=q∧ ∀ρ':Rho,jG ρ ρ' σ'→ ∀ds,VCs ρ H ws ds→ ∃a b,ds=a++b∧VC ρ' H (Y3 v k p).1 a∧VCs ρ H ws' b:=by
 have pl: ∀ {v:jZ} {p:Flds S k},cPl v ws σ K=some p→ ∃ws' σ',Sub σ σ'∧K ws' σ'=some p∧ ∀ρ':Rho,jG ρ ρ' σ'→ ∀ds,VCs ρ H ws ds→ ∃a b,ds=a++b∧(∃d,a= [d]∧VR1 ρ' H (zek (S:=S) v) d)∧VCs ρ H ws' b:=fun h=>by
  obtain ⟨ws',h1,h2⟩:=zkr (ρ:=ρ) (H:=H) h
  exact ⟨ws',σ,fun _ _ q=>q,h1,fun ρ' _=>h2 ρ'⟩
 cases v with
 | one n c=>
  obtain ⟨ws',h1,h2⟩:=zhE (ρ:=ρ) (H:=H) h
  exact ⟨ws',σ,p.2,fun _ _ q=>q,h1,rfl,fun ρ' _=>h2⟩
 | fp n c j=>
  obtain ⟨ws',h1,h2⟩:=zks (ρ:=ρ) (H:=H) h
  exact ⟨ws',σ,p.2,fun _ _ q=>q,h1,rfl,fun ρ' _=>h2⟩
 | un=>
  obtain ⟨ws',h1,h2⟩:=zkp (ρ:=ρ) (H:=H) h
  exact ⟨ws',σ,p,fun _ _ q=>q,h1,rfl,fun ρ' _ ds hd=>let ⟨a,b,e,⟨d,h3⟩,h4⟩:=h2 ds hd; ⟨a,b,e,⟨d,h3,trivial⟩,h4⟩⟩
 | skip=>obtain ⟨ws',σ',h1,h2,h3⟩:=pl h;exact ⟨ws',σ',p,h1,h2,rfl,h3⟩
 | nil=>obtain ⟨ws',σ',h1,h2,h3⟩:=pl h;exact ⟨ws',σ',p,h1,h2,rfl,h3⟩
 | nilp=>obtain ⟨ws',σ',h1,h2,h3⟩:=pl h;exact ⟨ws',σ',p,h1,h2,rfl,h3⟩
 | fn n=>obtain ⟨ws',σ',h1,h2,h3⟩:=pl h;exact ⟨ws',σ',p,h1,h2,rfl,h3⟩
 | whole o=>obtain ⟨ws',σ',h1,h2,h3⟩:=zko (ρ:=ρ) (H:=H) h;exact ⟨ws',σ',p,h1,h2,rfl,h3⟩
 | ptr o j=>obtain ⟨ws',σ',h1,h2,h3⟩:=zkq (ρ:=ρ) (H:=H) h;exact ⟨ws',σ',p,h1,h2,rfl,h3⟩
theorem Zz {k:List Code}: ∀ {vs:List jZ} {ws:List (Val S)} {σ:Sgm} {K:Sgm→Option (Flds S k)} {p:Flds S (jr vs k)},Zq vs ws σ K=some p →
  ∃σ' q,Sub σ σ'∧K σ'=some q∧(YI vs k p).2=q∧ ∀ρ':Rho,jG ρ ρ' σ'→ ∀ds,VCs ρ H ws ds→VCs ρ' H (YI vs k p).1 ds
 | [],ws,σ,K,p,h=>by
  simp only [Zq] at h;split at h
  ·exact ⟨σ,p,fun _ _ q=>q,h,rfl,fun ρ' _ ds hd=>hd⟩
  ·cases h
 | v::vs,ws,σ,K,p,h=>by
  simp only [Zq] at h;obtain ⟨ws1,σ1,q1,z1,z2,z3,z4⟩:=zd4 (ρ:=ρ) (H:=H) h
  obtain ⟨σ2,q2,y1,y2,y3,y4⟩:=Zz z2
  refine ⟨σ2,q2,z1.tr y1,y2,by simp only [YI,z3,y3],fun ρ' ha ds hd=> ?_⟩
  obtain ⟨a,b,rfl,h1,h2⟩:=z4 ρ' (ha.sub y1) ds hd
  simp only [YI,z3];exact ⟨a,b,rfl,h1,y4 ρ' ha b h2⟩
theorem Z1 {w:Val S}{f:Bool}{ws:List (Val S)}{d:D}(h:Vm w=some (f,ws))(k:VS ρ H w d): ∃ds,VCs ρ H ws ds∧(f=true→d= .agg ds)∧(f=false→ds= [d]):=by
 have base: ∀ {w:Val S},(∀n c x,w ≠ .one n c x)→VR1 ρ H w d→VCs ρ H [w] [d]:=by
  intro w hn h;refine VCs.single ?_
  cases w with
  | one n c x=>exact absurd rfl (hn n c x)
  | _=>exact ⟨d,rfl,h⟩
 cases w with
 | agg vs=>cases h;obtain ⟨ds,e,k⟩:=k;exact ⟨ds,k,⟨fun _=>e,fun e=>nomatch e⟩⟩
 | tup _=>cases h
 | one n c v=>
  cases h;simp only [VS,VSx] at k
  cases hc:isAgg c with
  | true=>rw [hc] at k;obtain ⟨ds,e,k⟩:=k;exact ⟨ds,VCs.single k,⟨fun _=>e,fun e=>nomatch e⟩⟩
  | false=>rw [hc] at k;exact ⟨[d],VCs.single k,⟨(fun e=>nomatch e),fun _=>rfl⟩⟩
 | _=>cases h;exact ⟨[d],base (fun _ _ _ e=>nomatch e) k,⟨(fun e=>nomatch e),fun _=>rfl⟩⟩
theorem zd2 {k:List Code}{v:VSh}{w:Val S}{σ:Sgm}{K:Sgm→Option (Flds S k)}{p:Flds S (Uo v k)}(h:zbP v w σ K=some p) :
  ∃σ' q,Sub σ σ'∧K σ'=some q∧(zai v k p).2=q∧ ∀ρ':Rho,jG ρ ρ' σ'→ ∀d,VS ρ H w d→VS ρ' H (zai v k p).1 d:=by
 unfold zbP at h;split at h
 ·rename_i f ws hw;split at h
  ·rename_i v;split at h
   ·rename_i hf;obtain ⟨σ',q,z1,z2,z3,z4⟩:=Zz (ρ:=ρ) (H:=H) (vs:= [v]) h
    refine ⟨σ',q,z1,z2,z3,fun ρ' ha d hd=> ?_⟩
    obtain ⟨ds,k1,k2⟩:=Z1 hw hd
    have k3:=z4 ρ' ha ds k1
    have k3:VCs ρ' H [(Y3 v k p).1] ds:=k3
    obtain ⟨d1,d2,rfl,k4,k5⟩:=k3
    have k5:d2= []:=k5
    subst k5;rw [List.append_nil] at k2 k1;show VS ρ' H (Y3 v k p).1 d
    cases v with
    | one n c=>
     simp only [Y3,VS,VSx];have hfc:f=isAgg c:=by
      have hf:zdp f (isAgg c)=true:=hf
      cases f<;>cases hc:isAgg c<;>rw [hc] at hf<;>first | rfl | cases hf
     subst hfc
     cases hc:isAgg c with
     | true=>exact ⟨d1,k2.1 hc,k4⟩
     | false=>have k2:=k2.2 hc;subst k2;exact k4
    | _=>
     have hf:zdp f false=true:=hf
     cases f with
     | true=>cases hf
     | false=>
      have k2:=k2.2 rfl
      subst k2;obtain ⟨d',e,k6⟩:=k4
      cases e;exact k6
   ·cases h
  ·rename_i l;split at h
   ·obtain ⟨σ',q,z1,z2,z3,z4⟩:=Zz (ρ:=ρ) (H:=H) (vs:=l) h
    refine ⟨σ',q,z1,z2,z3,fun ρ' ha d hd=> ?_⟩
    obtain ⟨ds,k1,k2⟩:=Z1 hw hd
    exact ⟨ds,k2.1 rfl,z4 ρ' ha ds k1⟩
   ·cases h
 ·cases h
theorem VN {ts:List D}(hsl: ∀i v,look t.sl i=some v→VS ρ H v (ts.getD i .undef)){k:List Code}: ∀ {vs:List (Nat×VSh)} {σ:Sgm} {K:Sgm→Option (Flds S k)} {p:Flds S (ZW vs k)},Uq t vs σ K=some p →
  ∃σ' q,Sub σ σ'∧K σ'=some q∧(Y2 vs k p).2=q∧ ∀ρ':Rho,jG ρ ρ' σ'→ ∀i v,look (Y2 vs k p).1 i=some v→VS ρ' H v (ts.getD i .undef)
 | [],σ,K,p,h=>⟨σ,p,fun _ _ q=>q,h,rfl,fun _ _ i v hv=>nomatch hv⟩
 | (i,v)::vs,σ,K,p,h=>by
  simp only [Uq] at h;split at h
  ·rename_i w hw;obtain ⟨σ1,q1,z1,z2,z3,z4⟩:=zd2 (ρ:=ρ) (H:=H) h
   obtain ⟨σ2,q2,y1,y2,y3,y4⟩:=VN hsl z2
   refine ⟨σ2,q2,z1.tr y1,y2,?_,fun ρ' ha j u hu=> ?_⟩
   ·simp only [Y2,z3,y3]
   ·simp only [Y2,look] at hu;split at hu
    ·rename_i e
     cases hu;obtain rfl:=Nat.eq_of_beq_eq_true e
     exact z4 ρ' (ha.sub y1) _ (hsl _ _ hw)
    ·rw [z3] at hu;exact y4 ρ' ha j u hu
  ·cases h
theorem zd3 (hh: ∀o ob,look t.hp o=some ob→qn fr ρ H o ob){k:List Code}{v:OSh}{o:Nat}{σ:Sgm}{K:Sgm→Option (Flds S k)}{p:Flds S (Up v k)}(h:zfC t v o σ K=some p) :
  ∃σ' q,Sub σ σ'∧K σ'=some q∧(Xo v k p).2=q∧ ∀ρ':Rho,jG ρ ρ' σ'→qn fr ρ' H o (Xo v k p).1:=by
 cases v with
 | row n e=>
  have h:ziU t n e o σ K=some p:=h
  unfold ziU at h;split at h
  ·rename_i a ha;split at h
   ·rename_i n' e' l hl;split at h
    ·rename_i m p' hn hm hp
     cases h;obtain ⟨he,rfl⟩:=QE hm
     subst he;refine ⟨σ,p',fun _ _ q=>q,hp,rfl,fun ρ' hag=> ?_⟩
     have h1:=hag o _ ha
     have h2:zw H n' e' (ρ a) l:=hh _ _ hl
     exact (h2.ext (HLe.refl _) (fun p x hx=>by rw [h1];exact hx) (fun _ _ _=>rfl)).up (Nat.le_of_ble_eq_true hn)
    ·cases h
   ·cases h
  ·rename_i ha;split at h
   ·rename_i p' hp
    cases h;exact ⟨σ,p',fun _ _ q=>q,hp,rfl,fun ρ' hag=>zw.of_nil (hag o _ ha)⟩
   ·cases h
  ·cases h
 | box pn' l=>
  have h:ziW t pn' l o σ K=some p:=h
  have key: ∀ {a:Nat} {σ0:Sgm},Sub σ σ0→look σ0 o=some (some a)→zcw t pn' l a σ0 K=some p →
    ∃σ' q,Sub σ σ'∧K σ'=some q∧(Xo (.box pn' l) k p).2=q∧ ∀ρ':Rho,jG ρ ρ' σ'→qn fr ρ' H o (Xo (.box pn' l) k p).1:=by
   intro a σ0 hs ha h;unfold zcw at h;split at h
   ·rename_i pn vs hl;split at h
    ·rename_i hpn;obtain rfl:=zkk hpn
     obtain ⟨σ',q,z1,z2,z3,z4⟩:=Zz (ρ:=ρ) (H:=H) (vs:=l) h
     refine ⟨σ',q,hs.tr z1,z2,z3,fun ρ' hag=> ?_⟩
     have h1:=hag o _ (z1 _ _ ha)
     obtain ⟨id,ds,k1,k2,k3,k9⟩:=hh _ _ hl
     have k4:=z4 ρ' hag ds k3
     exact ⟨id,ds,by rw [h1];exact k1,by rw [←k4.len,k3.len];exact k2,k4,k9⟩
    ·cases h
   ·cases h
  unfold ziW at h;split at h
  ·rename_i a ha;exact key (fun _ _ q=>q) ha h
  ·cases h
  ·split at h
   ·rename_i a _;split at h
    ·rename_i σ0 hb;obtain ⟨b1,b2⟩:=QF hb
     exact key b1 b2 h
    ·cases h
   ·cases h
theorem VP (hh: ∀o ob,look t.hp o=some ob→qn fr ρ H o ob){k:List Code}: ∀ {vs:List (Nat×OSh)} {σ:Sgm} {K:Sgm→Option (Flds S k)} {p:Flds S (js vs k)},Us t vs σ K=some p →
  ∃σ' q,Sub σ σ'∧K σ'=some q∧(Jo vs k p).2=q∧ ∀ρ':Rho,jG ρ ρ' σ'→ ∀o ob,look (Jo vs k p).1 o=some ob→qn fr ρ' H o ob
 | [],σ,K,p,h=>⟨σ,p,fun _ _ q=>q,h,rfl,fun _ _ i v hv=>nomatch hv⟩
 | (o,v)::vs,σ,K,p,h=>by
  simp only [Us] at h;obtain ⟨σ1,q1,z1,z2,z3,z4⟩:=zd3 (ρ:=ρ) (H:=H) hh h
  obtain ⟨σ2,q2,y1,y2,y3,y4⟩:=VP hh z2
  refine ⟨σ2,q2,z1.tr y1,y2,?_,fun ρ' ha j u hu=> ?_⟩
  ·simp only [Jo,z3,y3]
  ·simp only [Jo,look] at hu;split at hu
   ·rename_i e
    cases hu;obtain rfl:=Nat.eq_of_beq_eq_true e
    exact z4 ρ' (ha.sub y1)
   ·rw [z3] at hu;exact y4 ρ' ha j u hu
def zbm (ρ:Rho)(σ:Sgm):Rho:=fun o p=>match look σ o with
 | some (some a)=>ρ a p
 | some none=>(match p with
  | []=>some none
  | _=>none)
 | none=>none
theorem XY (σ:Sgm):jG ρ (zbm ρ σ) σ:=fun o a h=>by
 cases a with
 | some a=>intro p;simp only [zbm,h]
 | none=>simp only [zbm,h]
theorem Jc {σ:Sgm}{o:Nat}{p:List Nat}{id:Nat}(h:zbm ρ σ o p=some (some id)): ∃a,look σ o=some (some a)∧ρ a p=some (some id):=by
 unfold zbm at h;split at h
 ·rename_i a ha;exact ⟨a,ha,h⟩
 ·split at h<;>cases h
 ·cases h
theorem zaH {σ:Sgm}: ∀ {o:Nat} {a:Option Nat},look σ o=some a→(o,a)∈σ:=by
 induction σ with
 | nil=>intro o a h;cases h
 | cons x σ ih=>
  intro o a h;obtain ⟨k,v⟩:=x
  simp only [look] at h;split at h
  ·rename_i e
   cases h;rw [Nat.eq_of_beq_eq_true e];exact List.mem_cons_self ..
  ·exact List.mem_cons_of_mem _ (ih h)
theorem zcY: ∀ {σ:Sgm},zgF σ=true→ ∀ {o o' a:Nat},look σ o=some (some a)→look σ o'=some (some a)→o=o'
 | [],_,_,_,_,h,_=>nomatch h
 | (k,v)::σ,h,o,o',a,h1,h2=>by
  simp only [zgF,Bool.and_eq_true] at h;simp only [look] at h1 h2;have key: ∀ {q:Nat},v=some a→look σ q=some (some a)→False:=fun {q} hv hq=>by
   have h0:=h.1
   rw [hv] at h0;have:=List.all_eq_true.mp h0 _ (zaH hq)
   simp at this
  cases e1:Nat.beq k o<;>cases e2:Nat.beq k o'<;>simp only [e1] at h1<;>simp only [e2] at h2
  ·exact zcY h.2 h1 h2
  ·cases h2;exact (key rfl h1).elim
  ·cases h1;exact (key rfl h2).elim
  ·rw [←Nat.eq_of_beq_eq_true e1,←Nat.eq_of_beq_eq_true e2]
theorem zc.closeSh (h:zc fr b N ρ t s){sh:zo}{p:Flds S sh.cs}(hc:Pi.jK sh t=some p): ∃ρ',zc fr b N ρ' (qg sh p) s:=by
 unfold Pi.jK at hc;obtain ⟨σ1,q1,z1,z2,z3,z4⟩:=VN h.sl hc
 obtain ⟨σ2,q2,y1,y2,y3,y4⟩:=VP h.hp z2
 split at y2
 ·rename_i hok;simp only [zkI,Bool.and_eq_true] at hok;obtain ⟨⟨o1,o2⟩,o3⟩:=hok
  refine ⟨zbm ρ σ2,h.len,fun i v hv=> ?_,fun o ob ho=> ?_,fun o p o' p' id h1 h2=> ?_,fun o p id h1=> ?_,fun o p ho=> ?_,h.frm,List.nodup_nil,fun r hr=>nomatch hr⟩
  ·exact z4 _ ((XY σ2).sub y1) i v hv
  ·have ho:look (Jo sh.hp [] (Y2 sh.sl (js sh.hp []) p).2).1 o=some ob:=ho
   rw [z3] at ho;exact y4 _ (XY σ2) o ob ho
  ·obtain ⟨a,e1,e2⟩:=Jc h1
   obtain ⟨a',e3,e4⟩:=Jc h2
   obtain ⟨rfl,rfl⟩:=h.inj _ _ _ _ _ e2 e4
   exact ⟨zcY o1 e1 e3,rfl⟩
  ·obtain ⟨a,e1,e2⟩:=Jc h1
   exact h.liv _ _ _ e2
  ·have ho:sh.nx≤o:=ho
   unfold zbm
   cases hl:look σ2 o with
   | none=>rfl
   | some a=>
    have:=List.all_eq_true.mp o2 _ (zaH hl)
    have:o<sh.nx:=by simpa using this
    omega
 ·cases y2
end
section
variable {S:Nat→Type} [Sg:Sig S] {ρ ρ':Rho} {H H':zf} {fr:Fr} {b N:Nat} {t:TS S} {s:St} {α:Type}
def FzR (P:Nat→Prop)(H:zf)(v d:D):Prop:= ∃z,(frz 11 d).run H=some z∧Nr v z.1∧ ∀i∈z.2,dead H i∨P i
theorem Cl.fz {P:Nat→Prop}{n:Nat}(hn:n≤11){v d:D}(h:Cl H n v d):FzR P H v d:=by
 obtain ⟨z,h1,h2,h3⟩:=h.frz
 exact ⟨z,YS h1 hn,h2,fun i hi=> .inl (h3 i hi)⟩
theorem FzR.each {P:Nat→Prop}: ∀ {vs ds:List D},zg (FzR P H) vs ds→ ∃z,(ym (frz 11) ds).run H=some z∧zg Nr vs z.1∧ ∀i∈z.2,dead H i∨P i
 | [],[],_=>⟨([],[]),rfl,trivial,by simp⟩
 | v::vs,d::ds,h=>by
  obtain ⟨x,h1,h2,h3⟩:=h.1
  obtain ⟨y,h4,h5,h6⟩:=FzR.each h.2
  refine ⟨(x.1::y.1,x.2++y.2),by simp [ym,ze,h1,h4,Eff.run],⟨h2,h5⟩,fun i hi=> ?_⟩
  simp at hi;exact hi.elim (h3 i) (h6 i)
 | [],_::_,h | _::_,[],h=>h.elim
def dp:Code→Nat
 | .own c=>dp c+1
 | _=>0
theorem Yx {P:Nat→Prop}{m:Nat}{f:D→Eff (D×List Nat)}: ∀ {vs ds:List (List D)},zg (fun v d=> ∃z,(ym f d).run H=some z∧zg Nr v z.1∧ ∀i∈z.2,dead H i∨P i) vs ds →
  ∃z,(yf f ds).run H=some z∧zg (zg Nr) vs z.1∧ ∀i∈z.2,dead H i∨P i
 | [],[],_=>⟨([],[]),rfl,trivial,by simp⟩
 | v::vs,d::ds,h=>by
  obtain ⟨x,h1,h2,h3⟩:=h.1
  obtain ⟨y,h4,h5,h6⟩:=Yx (m:=m) h.2
  refine ⟨(x.1::y.1,x.2++y.2),by simp [yf,ze,h1,h4,Eff.run],⟨h2,h5⟩,fun i hi=> ?_⟩
  simp at hi;exact hi.elim (h3 i) (h6 i)
 | [],_::_,h | _::_,[],h=>h.elim
theorem Ya {P:Nat→Prop}{n m:Nat}(hn:n≤m){vs ds:List D}(h:zg (Cl H n) vs ds): ∃z,(ym (frz m) ds).run H=some z∧zg Nr vs z.1∧ ∀i∈z.2,dead H i∨P i:=by
 obtain ⟨z,h1,h2,h3⟩:=Z8 h (f:=frz m) (fun v d k=>by
  obtain ⟨z,h1,h2,h3⟩:=k.frz
  exact ⟨z,YS h1 hn,h2,h3⟩)
 exact ⟨z,h1,h2,fun i hi=> .inl (h3 i hi)⟩
theorem V8 {n:Nat}: ∀ {e:Code} {q:List Nat→Option (Option Nat)} {l:List (T S e)} {m:Nat},zw H n e q l→n+dp e≤m →
  (∀id es,q []=some (some id)→hat H id= .row (W (S:=S) e) es true→ ∀off len,off+len≤es.length→ ∃z,(frz (m+1) (.ref id off len)).run H=some z∧Nr (.lst (W (S:=S) e) (((l.drop off).take len).map (en e))) z.1∧ ∀i∈z.2,dead H i ∨ ∃p,q p=some (some i))
 | e,q,l,m,h,hm=>by
  intro id es h1 h2 off len hol;have fin: ∀(vs:List (List D)),vs=l.map (en e)→zg (fun v d=> ∃z,(ym (frz m) d).run H=some z∧zg Nr v z.1∧ ∀i∈z.2,dead H i ∨ ∃p,q p=some (some i)) vs es →
    ∃z,(frz (m+1) (.ref id off len)).run H=some z∧Nr (.lst (W (S:=S) e) (((l.drop off).take len).map (en e))) z.1∧ ∀i∈z.2,dead H i ∨ ∃p,q p=some (some i):=by
   intro vs hvs hall;subst hvs;obtain ⟨z,k1,k2,k3⟩:=Yx (m:=m) ((hall.drop off).take len)
   rw [←List.map_drop,←List.map_take] at k2;refine ⟨(.lst (W (S:=S) e) z.1,id::z.2),by simp only [frz,Eff.run,h2];rw [if_pos hol,ze,k1];rfl,Nr.mk_lst k2,fun i hi=> ?_⟩
   simp at hi;rcases hi with rfl | hi
   ·exact .inr ⟨[],h1⟩
   ·exact k3 i hi
  cases ho:zW e with
  | false=>
   rcases h.els ho with ⟨c1,_⟩ | ⟨id',es',c1,c2,c3⟩
   ·rw [h1] at c1;cases c1
   ·rw [h1] at c1;cases c1;rw [h2] at c2;cases c2;refine fin _ rfl (zg.of (by rw [List.length_map];exact c3.1.symm) fun i a d ha hd=> ?_)
    rw [List.getElem?_map,Option.map_eq_some_iff] at ha;obtain ⟨v,hv,rfl⟩:=ha
    obtain ⟨d',e1,e2⟩:=c3.2 i v hv
    rw [hd] at e1;cases e1;exact Ya (by omega) e2
  | true=>
   cases e with
   | own e=>
    rcases qe.elts h with ⟨c1,_⟩ | ⟨id',es',c1,c2,c3,c4⟩
    ·rw [h1] at c1;cases c1
    ·rw [h1] at c1;cases c1;have h2':hat H id= .row 1 es true:=h2
     rw [h2'] at c2;cases c2;refine fin _ rfl (zg.of (by rw [List.length_map];exact c3.symm) fun i a d ha hd=> ?_)
     rw [List.getElem?_map,Option.map_eq_some_iff] at ha;obtain ⟨v,hv,rfl⟩:=ha
     obtain ⟨ds,e1,y,e2,rfl,e4⟩:=c4 i v hv
     rw [hd] at e1;cases e1;obtain ⟨m',rfl⟩: ∃m',m=m'+1:=by
      simp only [dp] at hm;exact ⟨m-1,by omega⟩
     have hrec:=V8 (m:=m') e4 (by simp only [dp] at hm;omega)
     rcases e4.top with ⟨t1,t2⟩ | ⟨id2,es2,t1,t2,t3⟩
     ·have t1:q [i]=some none:=t1
      rw [e2] at t1;cases t1;refine ⟨([.nil],[]),rfl,⟨?_,trivial⟩,by simp⟩
      have:v= []:=t2
      subst this;exact Nr.mk_nil
     ·have t1':q [i]=some (some id2):=t1
      rw [e2] at t1';cases t1';obtain ⟨z,k1,k2,k3⟩:=hrec id2 es2 t1 t2 0 (List.length v) (by rw [t3];simp)
      refine ⟨([z.1],z.2),by simp [ym,ze,yN,k1,Eff.run],⟨?_,trivial⟩,fun j hj=>(k3 j hj).elim .inl fun ⟨p,hp⟩=> .inr ⟨i::p,hp⟩⟩
      have e5:((v:List (T S e)).drop 0).take (List.length v)=v:=by rw [List.drop_zero,List.take_of_length_le (Nat.le_refl _)]
      rw [e5] at k2;exact k2
   | _=>cases ho
def Own (ρ:Rho)(i:Nat):Prop:= ∃o p,ρ o p=some (some i)
def gA (t:TS S):XG S
 | .one n c' v,c=>(match Nat.ble n 11 with
  | true=>conv c' c v
  | false=>none)
 | .nil,.list _=>some []
 | .whole o p,c=>(match p,look t.hp o with
  | [],some (.row n e l)=>(match Nat.ble (n+dp e+1) 11 with
   | true=>conv (.list e) c l
   | false=>none)
  | _,_=>none)
 | .win o p off len,c=>(match p,look t.hp o with
  | [],some (.row n e l)=>(match Nat.ble (n+dp e+1) 11 with
   | true=>conv (.list e) c ((l.drop off).take len)
   | false=>none)
  | _,_=>none)
 | _,_=>none
theorem zeS (h:zc fr b N ρ t s){v:Val S}{c:Code}{x:T S c}{ds:List D}(hg:gA t v c=some x)(k:VC ρ s.hp v ds):zg (FzR (Own ρ) s.hp) (en c x) ds:=by
 unfold gA at hg;split at hg
 ·split at hg
  ·rename_i hn;rw [(jJ hg).1];exact zg.mono k fun _ _ _ q=>q.fz (Nat.le_of_ble_eq_true hn)
  ·cases hg
 ·cases hg;obtain ⟨d,rfl,e⟩:=k
  obtain rfl:d= .nil:=e
  exact ⟨⟨(.nil,[]),rfl,Nr.mk_nil,by simp⟩,trivial⟩
 ·rename_i c' o p;split at hg
  ·rename_i n e l ho;split at hg
   ·rename_i hn;have hn:=Nat.le_of_ble_eq_true hn
    obtain ⟨d,rfl,k⟩:=k
    rw [(jJ hg).1];refine ⟨?_,trivial⟩
    have hrow:zw s.hp n e (ρ o) l:=h.hp _ _ ho
    rcases k with ⟨id,sz,es,c1,c2,rfl⟩ | ⟨c1,rfl⟩
    ·rcases hrow.top with ⟨t1,_⟩ | ⟨id',es',t1,t2,t3⟩
     ·rw [c1] at t1;cases t1
     ·rw [c1] at t1;cases t1;rw [c2] at t2;cases t2;obtain ⟨z,k1,k2,k3⟩:=V8 (m:=10) hrow (by omega) id es c1 c2 0 es.length (by simp)
      rw [List.drop_zero,List.take_of_length_le (by rw [t3];exact Nat.le_refl _)] at k2
      exact ⟨z,k1,k2,fun i hi=>(k3 i hi).elim .inl fun ⟨p,hp⟩=> .inr ⟨o,p,hp⟩⟩
    ·rcases hrow.top with ⟨_,t2⟩ | ⟨id',es',t1,t2,t3⟩
     ·subst t2;exact ⟨(.nil,[]),rfl,Nr.mk_nil,by simp⟩
     ·rw [c1] at t1;cases t1
   ·cases hg
  ·cases hg
 ·rename_i c' o p off len;split at hg
  ·rename_i n e l ho;split at hg
   ·rename_i hn;have hn:=Nat.le_of_ble_eq_true hn
    obtain ⟨d,rfl,k⟩:=k
    rw [(jJ hg).1];refine ⟨?_,trivial⟩
    have hrow:zw s.hp n e (ρ o) l:=h.hp _ _ ho
    rcases k with ⟨id,sz,es,c1,c2,c3,rfl⟩ | ⟨c1,rfl,rfl,rfl⟩
    ·rcases hrow.top with ⟨t1,_⟩ | ⟨id',es',t1,t2,t3⟩
     ·rw [c1] at t1;cases t1
     ·rw [c1] at t1;cases t1;rw [c2] at t2;cases t2;obtain ⟨z,k1,k2,k3⟩:=V8 (m:=10) hrow (by omega) id es c1 c2 off len c3
      exact ⟨z,k1,k2,fun i hi=>(k3 i hi).elim .inl fun ⟨p,hp⟩=> .inr ⟨o,p,hp⟩⟩
    ·rcases hrow.top with ⟨_,t2⟩ | ⟨id',es',t1,t2,t3⟩
     ·subst t2;exact ⟨(.nil,[]),rfl,Nr.mk_nil,by simp⟩
     ·rw [c1] at t1;cases t1
   ·cases hg
  ·cases hg
 ·cases hg
theorem FzR.int {P:Nat→Prop}(k:IntKind)(z:Int):FzR P H (.int k z) (.int k z):=⟨(.int k z,[]),rfl,rfl,by simp⟩
def gF (t:TS S)(own:Bool):XG S:=match own with
 | true=>gA t
 | false=>gC 11
theorem zik (h:zc fr b N ρ t s){own:Bool}{v:Val S}{c:Code}{x:T S c}{ds:List D}(hg:gF t own v c=some x)(k:VC ρ s.hp v ds):zg (FzR (fun i=>own=true∧Own ρ i) s.hp) (en c x) ds:=by
 cases own with
 | true=>exact zg.mono (zeS h hg k) fun _ _ _ ⟨z,h1,h2,h3⟩=>⟨z,h1,h2,fun i hi=>(h3 i hi).imp id fun q=>⟨rfl,q⟩⟩
 | false=>exact zg.mono (zeR (by omega) hg k) fun _ _ _ q=>q.fz (Nat.le_refl _)
inductive PK where
 | val (c:Code)
 | ptr (c:Code)
 | fn (n:Nat)
def pcs:List PK→List Code
 | []=> []
 | .val c::ps=>c::pcs ps
 | .ptr c::ps=>c::pcs ps
 | .fn _::ps=>pcs ps
def YH:(ps:List PK)→Flds S (pcs ps)→List (Val S)
 | [],_=> []
 | .val c::ps,p=> .one 1 c p.1::YH ps p.2
 | .ptr c::ps,p=> .fp 1 c p.1 0::YH ps p.2
 | .fn n::ps,p=> .fn n::YH ps p
def yQ:Rho:=fun _ _=>none
def zeG (t:TS S)(own:Bool)(c:Code)(x:PX):Option (T S c):=match evK t x with
 | some v=>(match Vm v with
  | some (f,vs)=>(match zdp f (isAgg c) with
   | true=>mkT (gF t own) Vq c vs
   | false=>none)
  | none=>none)
 | none=>none
def ziz (t:TS S)(own:Bool)(c:Code)(x:PX):Option (T S c):=match evK t x with
 | some (.fp n c' v j)=>(match Nat.beq j 0&&Nat.ble n 11 with
  | true=>conv c' c v
  | false=>none)
 | some (.ptr o p i j)=>(match p,own&&Nat.beq i 0&&Nat.beq j 0,look t.hp o with
  | [],true,some (.box pn vs)=>mkT (gF t own) Vq c vs
  | _,_,_=>none)
 | _=>none
def qu (t:TS S)(own:Bool):(ps:List PK)→List (Nat×PX)→Option (Flds S (pcs ps))
 | [],[]=>some ()
 | .val c::ps,(m,x)::as=>(match Nat.beq m 0,zeG t own c x,qu t own ps as with
  | true,some v,some p=>some (v,p)
  | _,_,_=>none)
 | .ptr c::ps,(m,x)::as=>(match Nat.beq m 0,ziz t own c x,qu t own ps as with
  | true,some v,some p=>some (v,p)
  | _,_,_=>none)
 | .fn n::ps,(m,x)::as=>(match Nat.beq m 0,evK t x with
  | true,some (.fn k)=>(match Nat.beq k n with
   | true=>qu t own ps as
   | false=>none)
  | _,_=>none)
 | _,_=>none
theorem zc7 {a c:Bool}(h:zdp a c=true):a=c:=by cases a<;>cases c<;>first | rfl | cases h
theorem zii {v d:D}(hv:yw v=true)(h:Nr v d):Cl H 1 v d:=by
 refine Cl.plain ?_ h
 cases v with
 | lst sz es=>rcases h with ⟨_,rfl⟩ | ⟨_,rfl,_⟩<;>rfl
 | int _ _=>rw [show d=_ from h];rfl
 | bool _=>rw [show d=_ from h];rfl
 | flt _=>rw [show d=_ from h];rfl
 | str _=>rw [show d=_ from h];rfl
 | _=>cases hv
theorem ZR {c:Code}{v:T S c}{ds:List D}(h:zg Nr (en c v) ds):zg (Cl H 1) (en c v) ds:=h.mono fun a d ha q=>zii (qL c v a ha) q
theorem zfG (h:zc fr b N ρ t s){own:Bool}{c:Code}{x:PX}{v:T S c}(hv:zeG t own c x=some v) :
  ∃z,(frz ya (x.ev s.ts)).run s.hp=some z∧VS yQ [] (.one 1 c v) z.1∧(∀i∈z.2,dead s.hp i∨(own=true∧Own ρ i)):=by
 unfold zeG at hv;split at hv
 ·rename_i w hw;split at hv
  ·rename_i f vs hs;split at hv
   ·rename_i hf;obtain rfl:=zc7 hf
    obtain ⟨ds,k1,k2,k3⟩:=Z1 hs (h.ev hw)
    have k4:=ZT (R:=FzR (fun i=>own=true∧Own ρ i) s.hp) (fun k z=>FzR.int k z) (fun v c x ds hg k=>zik h hg k) hv k1
    cases hc:isAgg c with
    | true=>
     obtain ⟨z,q1,q2,q3⟩:=FzR.each k4
     rw [k2 hc];refine ⟨(.agg z.1,z.2),by simp only [ya,frz,ze,q1,Option.bind_some,Eff.run],?_,q3⟩
     simp only [VS,VSx,hc];exact ⟨_,rfl,ZR q2⟩
    | false=>
     have e:=k3 hc
     subst e;have hl:=k4.len
     rw [yT] at hl
     cases hen:en c v with
     | nil=>rw [hen] at k4;exact k4.elim
     | cons a as=>
      have k5:=k4
      rw [hen] at k5;obtain ⟨⟨z,q1,q2,q3⟩,q4⟩:=k5
      refine ⟨z,YS q1 (by decide),?_,q3⟩
      simp only [VS,VSx,hc];refine ZR ?_
      rw [hen];refine ⟨q2,?_⟩
      cases as with
      | nil=>trivial
      | cons _ _=>exact q4.elim
   ·cases hv
  ·cases hv
 ·cases hv
theorem zg5 (h:zc fr b N ρ t s){own:Bool}{c:Code}{x:PX}{v:T S c}(hv:ziz t own c x=some v) :
  ∃z,(frz ya (x.ev s.ts)).run s.hp=some z∧VS yQ [] (.fp 1 c v 0) z.1∧(∀i∈z.2,dead s.hp i∨(own=true∧Own ρ i)):=by
 unfold ziz at hv;split at hv
 ·rename_i n c' v' j hx;split at hv
  ·rename_i hn;simp only [Bool.and_eq_true] at hn;obtain rfl:=Nat.eq_of_beq_eq_true hn.1
   have hn:=Nat.le_of_ble_eq_true hn.2
   obtain ⟨r,k⟩:=(h.ev hx).fp
   obtain ⟨z,q1,q2,q3⟩:=k.frz
   refine ⟨z,YS q1 (by simp only [ya];omega),?_,fun i hi=> .inl (q3 i hi)⟩
   obtain ⟨ds,e,q4⟩:=q2.fptr
   rw [e];obtain ⟨a,a',rfl,q5,q6⟩:=zg.split q4
   refine ⟨a',?_⟩
   refine Cl.plain rfl (Nr.mk_fptr ?_)
   rw [(jJ hv).1];exact zg.append q5 (by
    have: ∀l:List D,zg Nr l l:=fun l=>by
     induction l with
     | nil=>trivial
     | cons a l ih=>exact ⟨Nr.rfl' a,ih⟩
    exact this a')
  ·cases hv
 ·rename_i o p i j hx;split at hv
  ·rename_i vs hc ho;simp only [Bool.and_eq_true] at hc;obtain ⟨⟨hown,hi⟩,hj⟩:=hc
   obtain rfl:=Nat.eq_of_beq_eq_true hi
   obtain rfl:=Nat.eq_of_beq_eq_true hj
   obtain ⟨id,sz,es,c1,c2,c3,c4⟩:=h.ev hx
   obtain ⟨id',ds,k1,k2,k3,k9⟩:=h.hp _ _ ho
   rw [c1] at k1;cases k1;rw [c2] at k2;cases k2;have k4:=ZT (R:=FzR (fun i=>own=true∧Own ρ i) s.hp) (fun k z=>FzR.int k z) (fun v c x ds hg k=>zik h hg k) hv k3
   obtain ⟨z,q1,q2,q3⟩:=FzR.each k4
   refine ⟨(.fptr z.1,id::z.2),?_,⟨[],by rw [List.drop_zero,List.append_nil];exact Cl.plain rfl (Nr.mk_fptr q2)⟩,fun i hi=> ?_⟩
   ·rw [c4,Nat.zero_mul,Nat.zero_add];simp only [ya,frz,Eff.run,c2,Nat.zero_div,Nat.zero_mod,List.getElem?_cons_zero,List.drop_zero,ze,q1,Option.bind_some]
   ·simp at hi;rcases hi with rfl | hi
    ·exact .inr ⟨hown,o,[],c1⟩
    ·exact q3 i hi
  ·cases hv
 ·cases hv
theorem qS (h:zc fr b N ρ t s){own:Bool}: ∀ {ps:List PK} {as:List (Nat×PX)} {p:Flds S (pcs ps)} {j:Nat},qu t own ps as=some p →
  ∃ds ids,(qX (as.map fun p=>(p.1,p.2.ev s.ts)) j).run s.hp=some ⟨ds,[],ids,[]⟩∧zg (VS yQ []) (YH ps p) ds∧ ∀i∈ids,dead s.hp i∨(own=true∧Own ρ i)
 | [],[],p,j,_=>⟨[],[],rfl,trivial,by simp⟩
 | .val c::ps,(m,x)::as,p,j,hp=>by
  simp only [qu] at hp;split at hp
  ·rename_i v q hm hv hq
   cases hp;obtain rfl:=Nat.eq_of_beq_eq_true hm
   obtain ⟨z,h1,h2,h3⟩:=zfG h hv
   obtain ⟨ds,ids,h4,h5,h6⟩:=qS h (j:=j) hq
   refine ⟨z.1::ds,z.2++ids,by simp only [List.map_cons,qX,ze,h1,h4,Option.bind_some,Eff.run],⟨h2,h5⟩,fun i hi=> ?_⟩
   simp at hi;exact hi.elim (h3 i) (h6 i)
  ·cases hp
 | .ptr c::ps,(m,x)::as,p,j,hp=>by
  simp only [qu] at hp;split at hp
  ·rename_i v q hm hv hq
   cases hp;obtain rfl:=Nat.eq_of_beq_eq_true hm
   obtain ⟨z,h1,h2,h3⟩:=zg5 h hv
   obtain ⟨ds,ids,h4,h5,h6⟩:=qS h (j:=j) hq
   refine ⟨z.1::ds,z.2++ids,by simp only [List.map_cons,qX,ze,h1,h4,Option.bind_some,Eff.run],⟨h2,h5⟩,fun i hi=> ?_⟩
   simp at hi;exact hi.elim (h3 i) (h6 i)
  ·cases hp
 | .fn n::ps,(m,x)::as,p,j,hp=>by
  simp only [qu] at hp;split at hp
  ·rename_i k hm hx;split at hp
   ·rename_i hk;obtain rfl:=Nat.eq_of_beq_eq_true hm
    obtain rfl:=Nat.eq_of_beq_eq_true hk
    have e:x.ev s.ts= .fn k:=h.ev hx
    obtain ⟨ds,ids,h4,h5,h6⟩:=qS h (j:=j) hp
    refine ⟨.fn k::ds,ids,?_,⟨rfl,h5⟩,h6⟩
    simp only [List.map_cons,qX,ze,e,ya,frz,h4,Option.bind_some,Eff.run,List.nil_append]
   ·cases hp
  ·cases hp
 | [],_::_,_,_,hp | .val _::_,[],_,_,hp | .ptr _::_,[],_,_,hp | .fn _::_,[],_,_,hp=>nomatch hp
end
def jP:D→Bool
 | .tup _=>true
 | _=>false
inductive RK where
 | val (c:Code)
 | own (c:Code)
 | cl (c:Code)
 | fp (c:Code)
def rcs:List RK→List Code
 | []=> []
 | .val c::rs=>c::rcs rs
 | .own c::rs=> .list c::rcs rs
 | .cl c::rs=> .list c::rcs rs
 | .fp c::rs=>c::rcs rs
def tpR:List RK→Bool
 | [_]=>false
 | _=>true
section
variable {S:Nat→Type} [Sg:Sig S] {ρ ρ':Rho} {H H':zf} {fr:Fr} {b N:Nat} {t:TS S} {s g:St} {α:Type}
def zez (c:Code)(l:List (T S c))(x:D):Prop:=(x= .nil∧l= []) ∨ ∃es,x= .own (W (S:=S) c) es∧Els [] 1 c l es
def Zi:(rs:List RK)→Flds S (rcs rs)→List D→Prop
 | [],_,xs=>xs= []
 | .val c::rs,p,x::xs=>VS yQ [] (.one 1 c p.1) x∧Zi rs p.2 xs
 | .own c::rs,p,x::xs=>zez c p.1 x∧Zi rs p.2 xs
 | .cl c::rs,p,x::xs=>(VS yQ [] (.one 1 (.list c) p.1) x∨zez c p.1 x)∧Zi rs p.2 xs
 | .fp c::rs,p,x::xs=>VS yQ [] (.fp 1 c p.1 0) x∧Zi rs p.2 xs
 | _::_,_,[]=>False
def FOk (pr:yn)(f:Nat)(ps:List PK)(rs:List RK)(F:Flds S (pcs ps)→Option (Flds S (rcs rs))):Prop:=
 ∀p r,F p=some r→ ∀ds,zg (VS yQ []) (YH ps p) ds→ZL pr f ds [] fun d H'=>jP d=tpR rs∧ ∃xs hs rd,QP H' (qq d)=some (xs,hs,rd)∧zP hs=true∧apart hs rd=true∧Zi rs r xs
def LOk (pr:yn)(f:Nat)(c:Code)(ps:List PK)(rs:List RK)(F:T S c×Flds S (pcs ps)→Option (T S c×Flds S (rcs rs))):Prop:=
 ∀p r,F p=some r→ ∀cs ds,zg (Cl [] 1) (en c p.1) cs→zg (VS yQ []) (YH ps p.2) ds→ZL pr f (.ptr 0 0::ds) [.row (W (S:=S) c) [cs] true] fun d H'=>jP d=tpR rs∧ ∃xs hs rd cs2 ry,QP H' (qq d)=some (xs,hs,rd)∧zP hs=true∧apart hs rd=true∧Zi rs r.2 xs ∧
  ZJ H' 0 [(0,true)]=some ([(0,.row (W (S:=S) c) [cs2] true)],ry)∧zg (Cl [] 1) (en c r.1) cs2∧apart hs ry=true∧apart hs [0]=true∧apart [0] rd=true∧apart [0] ry=true
theorem zc.freshK (h:zc fr b N ρ t g){r:Nat}{k:Blk}(hr:t.av.contains r=true) :
  zc fr b N ρ (t.take r) ⟨g.ts,g.hp.set (b+r) k⟩∧Ext ρ g.hp ρ (g.hp.set (b+r) k)∧hat (g.hp.set (b+r) k) (b+r)=k ∧
   (∀o p,ρ o p≠some (some (b+r)))∧fr (b+r)=none∧hat g.hp (b+r)= .fresh∧b+r<g.hp.length:=by
 have hm:r∈t.av:=by simpa using hr
 obtain ⟨hn,ha⟩:=h.avl
 obtain ⟨h1,h2,h3⟩:=ha r hm
 have hnot: ∀o p,ρ o p≠some (some (b+r)):=fun o p e=>by
  obtain ⟨_,_,_,k⟩:=h.liv _ _ _ e
  rw [h1] at k
  cases k
 have hne: ∀ {j:Nat},j≠b+r→hat (g.hp.set (b+r) k) j=hat g.hp j:=fun hj=>by rw [zp h2,if_neg hj]
 have hx:Ext ρ g.hp ρ (g.hp.set (b+r) k):=⟨jg (fun _ _ e=>by rw [h1] at e;cases e),fun _ _ _ h=>h,fun o p id sz' es' k1 k2=>
  ⟨es',by rw [hne (fun e=>by subst e;exact hnot _ _ k1)];exact k2,rfl⟩⟩
 refine ⟨⟨h.len,fun i v hv=>(h.sl i v hv).ext hx,fun o ob ho=>qn.ext hx (fun p id k=>hne (fun e=>by subst e;exact hnot _ _ k)) (h.hp _ _ ho),h.inj,fun o p id k=> ?_,h.nxt,fun id k hk=> ?_,?_⟩,hx,by rw [zp h2,if_pos rfl],hnot,h3,h1,h2⟩
 ·obtain ⟨k1,sz',es',k2⟩:=h.liv _ _ _ k
  exact ⟨k1,sz',es',by rw [hne (fun e=>by subst e;exact hnot _ _ k)];exact k2⟩
 ·obtain ⟨k1,k2⟩:=h.frm _ _ hk
  refine ⟨by rw [hne (fun e=>by subst e;rw [h3] at hk;cases hk)];exact k1,by simpa using k2⟩
 ·refine ⟨hn.erase r,fun r' hr'=> ?_⟩
  obtain ⟨k1,k2⟩:=(List.Nodup.mem_erase_iff hn).mp (show r'∈t.av.erase r from hr')
  obtain ⟨k3,k4,k5⟩:=ha r' k2
  exact ⟨by rw [hne (by omega)];exact k3,by simpa using k4,k5⟩
def jX:(rs:List RK)→Flds S (rcs rs)→Nat→TS S→Option (List (Val S)×TS S)
 | [],_,_,t=>some ([],t)
 | .val c::rs,p,k,t=>(match jX rs p.2 (k+1) t with
  | some q=>some (.one 1 c p.1::q.1,q.2)
  | none=>none)
 | .fp c::rs,p,k,t=>(match jX rs p.2 (k+1) t with
  | some q=>some (.fp 1 c p.1 0::q.1,q.2)
  | none=>none)
 | .own c::rs,p,k,t=>(match t.av.contains k && !zW c with
  | true=>(match jX rs p.2 (k+1) ((t.take k).add (.row 1 c p.1)) with
   | some q=>some (.whole t.nx []::q.1,q.2)
   | none=>none)
  | false=>none)
 | .cl c::rs,p,k,t=>(match t.av.contains k&&Nat.blt 0 (W (S:=S) c) with
  | true=>(match jX rs p.2 (k+1) { t.take k with gh:=true } with
   | some q=>some (.one 2 (.list c) p.1::q.1,q.2)
   | none=>none)
  | false=>none)
theorem HLe.nil (H:zf):HLe [] H:=fun id sz es h=>by simp [hat] at h
theorem Ext.tr {ρ1 ρ2 ρ3:Rho}{H1 H2 H3:zf}(h:Ext ρ1 H1 ρ2 H2)(k:Ext ρ2 H2 ρ3 H3):Ext ρ1 H1 ρ3 H3:=⟨h.hle.tr k.hle,fun o p x q=>k.map _ _ _ (h.map _ _ _ q),fun o p id sz es q1 q2=>by
 obtain ⟨es',e1,e2⟩:=h.row _ _ _ _ _ q1 q2
 obtain ⟨es2,e3,e4⟩:=k.row _ _ _ _ _ (h.map _ _ _ q1) e1
 exact ⟨es2,e3,e4.trans e2⟩⟩
theorem VS.fromNo {v:Val S}{d:D}(h:VS yQ [] v d):VS ρ H v d:=h.ext ⟨HLe.nil H,(fun _ _ _ h=>by cases h),(fun _ _ _ _ _ h=>by cases h)⟩
theorem zd6 {n:Nat}{v:D}{sz:Nat}{es:List (List D)}(h:Cl H n v (.own sz es))(hv:yw v=true):False:=by
 have:=Uv hv h
 cases this
theorem VS.notown {n:Nat}{c:Code}{v:T S c}{sz:Nat}{es:List (List D)}(h:VS (S:=S) ρ H (.one n c v) (.own sz es)):False:=by
 simp only [VS,VSx] at h;split at h
 ·obtain ⟨_,e,_⟩:=h;cases e
 ·cases hen:en c v with
  | nil=>rw [hen] at h;exact h
  | cons a as=>
   have hc:=qL c v a (by rw [hen];simp)
   rw [hen] at h;exact zd6 h.1 hc
theorem Qd {r:Nat}{x:D}(h: ∀sz es,x ≠ .own sz es):jY r x=(x,[]):=by
 cases x<;>first | rfl | exact absurd rfl (h _ _)
theorem VS.toVSx {v:Val S}{d:D}(hv: ∀vs,v ≠ .tup vs)(h:VS ρ H v d):VSx ρ H v d:=by
 cases v with
 | tup vs=>exact absurd rfl (hv vs)
 | _=>exact h
theorem zc.insX (h:zc fr b N ρ t g)(q:List Nat→Option (Option Nat))(H:zf):Ext ρ H (ins ρ t.nx q) H:=⟨HLe.refl _,fun o p x hx=>by
  rw [qv (fun e=>by subst e;rw [h.nxt _ _ (Nat.le_refl _)] at hx;cases hx)]
  exact hx,fun o p id sz es _ he=>⟨es,he,rfl⟩⟩
theorem zc.newX (h:zc fr b N ρ t g){q:Nat}{e:Code}{l:List (T S e)}{x:D}(hq:t.av.contains q=true)(he:zW e=false){es:List (List D)}(hes:Els [] 1 e l es) :
  ∃ρ',zc fr b N ρ' ((t.take q).add (.row 1 e l)) ⟨g.ts,g.hp.set (b+q) (.row (W (S:=S) e) es true)⟩∧Ext ρ g.hp ρ' (g.hp.set (b+q) (.row (W (S:=S) e) es true))∧ρ' t.nx []=some (some (b+q))∧hat (g.hp.set (b+q) (.row (W (S:=S) e) es true)) (b+q)= .row (W (S:=S) e) es true:=by
 obtain ⟨k1,k2,k3,k4,k5,k6,k7⟩:=h.freshK (r:=q) (k:= .row (W (S:=S) e) es true) hq
 have hnx:(t.take q).nx=t.nx:=rfl
 refine ⟨ins ρ t.nx (at0 (some (b+q))),k1.addObj (q:=at0 (some (b+q))) (fun p p' id e1 e2=>by rw [(zR e1).1,(zR e2).1]) (fun p id e=> ?_) (fun hx=> ?_),k2.tr (h.insX _ _),by rw [zF];rfl,k3⟩
 ·obtain ⟨rfl,e⟩:=zR e
  cases e;exact ⟨k4,k5,_,es,k3⟩
 ·exact zw.of_els he (by rw [hnx,zF];rfl) k3 (hes.mono (Nat.le_refl _) (HLe.nil _))
theorem zc.newNX (h:zc fr b N ρ t g)(q:Nat){e:Code}: ∃ρ',zc fr b N ρ' ((t.take q).add (.row 1 e [])) g∧Ext ρ g.hp ρ' g.hp∧ρ' t.nx []=some none:=by
 have hnx:(t.take q).nx=t.nx:=rfl
 refine ⟨_,(h.takeR q).addObj (q:=at0 none) (fun p p' id e=> ?_) (fun p id e=> ?_) (fun hx=>zw.of_nil (by rw [hnx,zF];rfl)),h.insX _ _,by rw [hnx,zF];rfl⟩
 ·cases (zR e).2
 ·cases (zR e).2
theorem zc.ghT (h:zc fr b N ρ t g)(x:Bool):zc fr b N ρ { t with gh:=x } g:=⟨h.len,h.sl,h.hp,h.inj,h.liv,h.nxt,h.frm,h.avl⟩
theorem zkm {n:Nat}{c:Code}{l:List (T S c)}{es:List (List D)}(h:Els H n c l es):zg (zg (Cl H n)) (l.map (en c)) es:=by
 refine zg.of (by rw [List.length_map];exact h.1.symm) (fun i a d ha hd=> ?_)
 rw [List.getElem?_map,Option.map_eq_some_iff] at ha;obtain ⟨z,hz,rfl⟩:=ha
 obtain ⟨d',h1,h2⟩:=h.2 i z hz
 rw [hd] at h1
 cases h1;exact h2
theorem zhB {n:Nat}{c:Code}{l:List (T S c)}{es:List (List D)}(h:Els H n c l es): ∀d∈es,d.length≤W (S:=S) c:=fun d hd=>by
 obtain ⟨i,hi,rfl⟩:=List.mem_iff_getElem.mp hd
 obtain ⟨d',h1,h2⟩:=h.2 i (l[i]'(by rw [←h.1];exact hi)) (List.getElem?_eq_getElem _)
 rw [List.getElem?_eq_getElem hi] at h1
 cases h1;rw [←h2.len,yT];exact Nat.le_refl _
theorem jq: ∀ {rs:List RK} {p:Flds S (rcs rs)} {xs:List D} {k:Nat} {t:TS S} {s g:St} {ρ:Rho} {q:List (Val S)×TS S},Zi rs p xs→GhK s g→zc fr b N ρ t g→jX rs p k t=some q →
  ∃g' ρ',GhK ⟨s.ts,ye s.hp (zA (b+k) xs).2⟩ g'∧zc fr b N ρ' q.2 g'∧Ext ρ g.hp ρ' g'.hp∧zg (VSx ρ' g'.hp) q.1 (zA (b+k) xs).1∧(∀id∈(zA (b+k) xs).2.map (·.1),hat s.hp id= .fresh∧id<s.hp.length)
 | [],p,xs,k,t,s,g,ρ,q,hx,hg,h,hi=>by
  cases hi;rw [show xs= [] from hx]
  exact ⟨g,ρ,hg,h,Ext.refl _ _,trivial,fun id hid=>nomatch hid⟩
 | .val c::rs,p,x::xs,k,t,s,g,ρ,q,hx,hg,h,hi=>by
  simp only [jX] at hi;split at hi
  ·rename_i q' hq
   cases hi;obtain ⟨g',ρ',k1,k2,k3,k4,k5⟩:=jq hx.2 hg h hq
   have e:jY (b+k) x=(x,[]):=Qd fun sz es e=>by
    have:=hx.1
    rw [e] at this;exact this.notown
   refine ⟨g',ρ',?_,k2,k3,?_,?_⟩
   ·simp only [zA,e,List.nil_append];exact k1
   ·simp only [zA,e];exact ⟨(hx.1.fromNo (ρ:=ρ') (H:=g'.hp)).toVSx (fun _ e=>nomatch e),k4⟩
   ·simp only [zA,e,List.nil_append];exact k5
  ·cases hi
 | .fp c::rs,p,x::xs,k,t,s,g,ρ,q,hx,hg,h,hi=>by
  simp only [jX] at hi;split at hi
  ·rename_i q' hq
   cases hi;obtain ⟨g',ρ',k1,k2,k3,k4,k5⟩:=jq hx.2 hg h hq
   have e:jY (b+k) x=(x,[]):=Qd fun sz es e=>by
    obtain ⟨r,hr⟩:=hx.1.fp
    rw [e] at hr;have:=Un hr
    cases this
   refine ⟨g',ρ',?_,k2,k3,?_,?_⟩
   ·simp only [zA,e,List.nil_append];exact k1
   ·simp only [zA,e];exact ⟨(hx.1.fromNo (ρ:=ρ') (H:=g'.hp)).toVSx (fun _ e=>nomatch e),k4⟩
   ·simp only [zA,e,List.nil_append];exact k5
  ·cases hi
 | .own c::rs,p,x::xs,k,t,s,g,ρ,q,hx,hg,h,hi=>by
  simp only [jX] at hi;split at hi
  ·rename_i hc;simp only [Bool.and_eq_true,Bool.not_eq_true'] at hc;split at hi
   ·rename_i q' hq
    cases hi;rcases hx.1 with ⟨rfl,hl⟩ | ⟨es,rfl,hes⟩
    ·rw [hl] at hq;obtain ⟨ρ1,z1,z3,z2⟩:=h.newNX k (e:=c)
     obtain ⟨g',ρ',k1,k2,k3,k4,k5⟩:=jq hx.2 hg z1 hq
     exact ⟨g',ρ',k1,k2,z3.tr k3,⟨(Q7 (k3.map _ _ _ z2)).toVSx (fun _ e=>nomatch e),k4⟩,k5⟩
    ·obtain ⟨ρ1,z1,z3,z2,z4⟩:=h.newX (x:= .nil) hc.1 hc.2 hes
     have hg1:GhK ⟨s.ts,s.hp.set (b+k) (.row (W (S:=S) c) es true)⟩ ⟨g.ts,g.hp.set (b+k) (.row (W (S:=S) c) es true)⟩:=⟨hg.ts,zfe hg.hp _ _⟩
     obtain ⟨g',ρ',k1,k2,k3,k4,k5⟩:=jq hx.2 hg1 z1 hq
     have hm:k∈t.av:=by simpa using hc.1
     obtain ⟨f1,f2,_⟩:=h.avl.2 k hm
     have f2':b+k<s.hp.length:=by rw [hg.hp.1];exact f2
     have f1':hat s.hp (b+k)= .fresh:=by
      rcases hg.hp.2 (b+k) with e | ⟨_,_,_,e⟩ | ⟨_,_,_,_,e⟩
      ·rw [←e];exact f1
      ·rw [e] at f1;cases f1
      ·rw [e] at f1;cases f1
     refine ⟨g',ρ',k1,k2,z3.tr k3,⟨?_,k4⟩,fun id hid=> ?_⟩
     ·obtain ⟨es',e1,e2⟩:=k3.row _ _ _ _ _ z2 z4
      exact (yA (k3.map _ _ _ z2) e1 e2).toVSx (fun _ e=>nomatch e)
     ·simp only [zA,jY,List.cons_append,List.nil_append,List.map_cons,List.mem_cons] at hid;rcases hid with rfl | hid
      ·exact ⟨f1',f2'⟩
      ·obtain ⟨p1,p2⟩:=k5 id (by simpa [Nat.add_assoc] using hid)
       simp only [zp f2'] at p1;split at p1
       ·cases p1
       ·exact ⟨p1,by simpa using p2⟩
   ·cases hi
  ·cases hi
 | .cl c::rs,p,x::xs,k,t,s,g,ρ,q,hx,hg,h,hi=>by
  simp only [jX] at hi;split at hi
  ·rename_i hc;simp only [Bool.and_eq_true] at hc;have hw:0<W (S:=S) c:=by simpa using hc.2
   split at hi
   ·rename_i q' hq
    cases hi;have plainCase: ∀x:D,(∀sz es,x ≠ .own sz es)→Zi rs p.2 xs→(∀(ρ':Rho) (H':zf),VS (S:=S) ρ' H' (.one 2 (.list c) p.1) x) →
      ∃g' ρ',GhK ⟨s.ts,ye s.hp (zA (b+k) (x::xs)).2⟩ g'∧zc fr b N ρ' q'.2 g'∧Ext ρ g.hp ρ' g'.hp∧zg (VSx ρ' g'.hp) (Val.one 2 (.list c) p.1::q'.1) (zA (b+k) (x::xs)).1∧(∀id∈(zA (b+k) (x::xs)).2.map (·.1),hat s.hp id= .fresh∧id<s.hp.length):=by
     intro x hno hx2 hv;obtain ⟨g',ρ',k1,k2,k3,k4,k5⟩:=jq hx2 hg ((h.takeR k).ghT true) hq
     have e:=Qd (r:=b+k) hno
     refine ⟨g',ρ',?_,k2,k3,?_,?_⟩
     ·simp only [zA,e,List.nil_append];exact k1
     ·simp only [zA,e];exact ⟨(hv ρ' g'.hp).toVSx (fun _ e=>nomatch e),k4⟩
     ·simp only [zA,e,List.nil_append];exact k5
    rcases hx.1 with hv | ⟨rfl,hl⟩ | ⟨es,rfl,hes⟩
    ·exact plainCase x (fun sz es e=>by rw [e] at hv;exact hv.notown) hx.2 fun ρ' H'=>VS.mk_lst ((hv.fromNo (ρ:=ρ') (H:=H')).lst.up (by omega))
    ·exact plainCase .nil (fun _ _ e=>nomatch e) hx.2 fun ρ' H'=>VS.mk_lst (by rw [hl];exact Cl.plain rfl Nr.mk_nil)
    ·obtain ⟨z1,z2,z3,z4,z5,z6,z7⟩:=h.freshK (r:=k) (k:= .row (W (S:=S) c) es false) hc.1
     have hg1:GhK ⟨s.ts,s.hp.set (b+k) (.row (W (S:=S) c) es true)⟩ ⟨g.ts,g.hp.set (b+k) (.row (W (S:=S) c) es false)⟩:=⟨hg.ts,by simp [hg.hp.1],fun j=>by
      have f2':b+k<s.hp.length:=by rw [hg.hp.1];exact z7
      rw [zp z7,zp f2'];split
      ·exact .inr (.inl ⟨_,_,rfl,rfl⟩)
      ·exact hg.hp.2 j⟩
     obtain ⟨g',ρ',k1,k2,k3,k4,k5⟩:=jq hx.2 hg1 (z1.ghT true) hq
     have f2':b+k<s.hp.length:=by rw [hg.hp.1];exact z7
     have f1':hat s.hp (b+k)= .fresh:=by
      rcases hg.hp.2 (b+k) with e | ⟨_,_,_,e⟩ | ⟨_,_,_,_,e⟩
      ·rw [←e];exact z6
      ·rw [e] at z6;cases z6
      ·rw [e] at z6;cases z6
     refine ⟨g',ρ',k1,k2,z2.tr k3,⟨?_,k4⟩,fun id hid=> ?_⟩
     ·have hh:hat g'.hp (b+k)= .row (W (S:=S) c) es false:=k3.hle _ _ _ z3
      refine VS.toVSx (fun _ e=>nomatch e) (VS.mk_lst ?_)
      refine .inr (.inl ⟨_,_,b+k,0,es.length,es,rfl,rfl,hh,by simp,?_,hw,zhB hes⟩)
      rw [List.drop_zero,List.take_of_length_le (Nat.le_refl _)];exact zkm (hes.mono (Nat.le_refl _) (HLe.nil _))
     ·simp only [zA,jY,List.cons_append,List.nil_append,List.map_cons,List.mem_cons] at hid;rcases hid with rfl | hid
      ·exact ⟨f1',f2'⟩
      ·obtain ⟨p1,p2⟩:=k5 id (by simpa [Nat.add_assoc] using hid)
       simp only [zp f2'] at p1;split at p1
       ·cases p1
       ·exact ⟨p1,by simpa using p2⟩
   ·cases hi
  ·cases hi
 | .val _::_,_,[],_,_,_,_,_,_,hx,_,_,_ | .own _::_,_,[],_,_,_,_,_,_,hx,_,_,_ | .cl _::_,_,[],_,_,_,_,_,_,hx,_,_,_ | .fp _::_,_,[],_,_,_,_,_,_,hx,_,_,_=>hx.elim
end
section
variable {S:Nat→Type} [Sg:Sig S] {ρ ρ':Rho} {H H':zf} {fr:Fr} {b N:Nat} {t:TS S} {s g:St} {α:Type} {pr:yn}
def scC:Nat→Code→Bool
 | 0,_=>false
 | _+1,.list _=>false
 | _+1,.own _=>false
 | f+1,.st i=>(Sg.fields i).all (scC f)
 | _+1,_=>true
theorem jp: ∀ {f:Nat} {c:Code} {v:T S c},scC (S:=S) f c=true→ ∀d∈en c v,sc d=true∧jn d=true
 | 0,_,_,h=>nomatch h
 | f+1,.int _,v,_=>fun d hd=>by simp only [YF,List.mem_singleton] at hd;subst hd;exact ⟨rfl,rfl⟩
 | f+1,.bool,v,_=>fun d hd=>by simp only [YF,List.mem_singleton] at hd;subst hd;exact ⟨rfl,rfl⟩
 | f+1,.flt,v,_=>fun d hd=>by simp only [YF,List.mem_singleton] at hd;subst hd;exact ⟨rfl,rfl⟩
 | f+1,.str,v,_=>fun d hd=>by simp only [YF,List.mem_singleton] at hd;subst hd;exact ⟨rfl,rfl⟩
 | f+1,.arr _ _,v,_=>fun d hd=>by obtain ⟨z,_,rfl⟩:=List.mem_map.mp hd;exact ⟨rfl,rfl⟩
 | f+1,.st i,v,h=>fun d hd=>by
  have hd:d∈Sg.Dd i v:=hd
  rw [Sg.hD] at hd;have h:(Sg.fields i).all (scC (S:=S) f)=true:=h
  generalize Sg.split i v=p at hd
  generalize Sg.fields i=cs at p h
  induction cs with
  | nil=>cases hd
  | cons c cs ih=>
   simp only [List.all_cons,Bool.and_eq_true] at h;rcases List.mem_append.mp hd with hd | hd
   ·exact jp h.1 d hd
   ·first | exact ih p.2 h.2 hd | exact ih p.2 hd h.2
 | f+1,.list _,_,h=>nomatch h
 | f+1,.own _,_,h=>nomatch h
def scR:RK→Bool
 | .val c=>scC (S:=S) 9 c
 | .own c=>scC (S:=S) 9 c
 | _=>false
def keeps (rs:List RK):Bool:=rs.all (scR (S:=S))
def VW:RK→Bool
 | .val _=>true
 | .fp _=>true
 | _=>false
theorem zce {n:Nat}{G:zf}: ∀ {cs ds:List D},(∀d∈cs,sc d=true∧jn d=true)→zg (Cl G n) cs ds→(ds.all jn)=true
 | [],[],_,_=>rfl
 | c::cs,d::ds,h,k=>by
  have:=k.1.sc (h c (by simp)).1
  subst this;simp only [List.all_cons,(h d (by simp)).2,Bool.true_and];exact zce (fun x hx=>h x (by simp [hx])) k.2
 | [],_::_,_,k | _::_,[],_,k=>k.elim
theorem zfN {c:Code}{v:T S c}{x:D}(h:scC (S:=S) 9 c=true)(k:VS yQ [] (.one 1 c v) x):qE x=true:=by
 simp only [VS,VSx] at k;split at k
 ·obtain ⟨ds,rfl,k⟩:=k
  exact zce (jp h) k
 ·have:=zce (jp h) k
  simp only [List.all_cons,List.all_nil,Bool.and_true] at this
  cases x<;>first | exact this | cases this
theorem jz: ∀ {rs:List RK} {p:Flds S (rcs rs)} {xs:List D},keeps (S:=S) rs=true→Zi rs p xs→(xs.all qE)=true
 | [],_,_,_,h=>by rw [show _=_ from h];rfl
 | .val c::rs,p,x::xs,hk,h=>by
  simp only [keeps,List.all_cons,Bool.and_eq_true] at hk;simp only [List.all_cons,Bool.and_eq_true];exact ⟨zfN hk.1 h.1,jz hk.2 h.2⟩
 | .own c::rs,p,x::xs,hk,h=>by
  simp only [keeps,List.all_cons,Bool.and_eq_true] at hk;simp only [List.all_cons,Bool.and_eq_true];refine ⟨?_,jz hk.2 h.2⟩
  rcases h.1 with ⟨rfl,_⟩ | ⟨es,rfl,hes⟩
  ·rfl
  ·simp only [qE,List.all_eq_true];intro e he;obtain ⟨i,hi,rfl⟩:=List.mem_iff_getElem.mp he
   obtain ⟨d',h1,h2⟩:=hes.2 i (p.1[i]'(by rw [←hes.1];exact hi)) (List.getElem?_eq_getElem _)
   rw [List.getElem?_eq_getElem hi] at h1
   cases h1;exact List.all_eq_true.mp (zce (jp hk.1) h2)
 | .cl c::rs,p,xs,hk,h=>by simp [keeps,scR] at hk
 | .fp c::rs,p,xs,hk,h=>by simp [keeps,scR] at hk
 | .val _::_,_,[],_,h | .own _::_,_,[],_,h=>h.elim
theorem Zi.len: ∀ {rs:List RK} {p:Flds S (rcs rs)} {xs:List D},Zi rs p xs→xs.length=rs.length
 | [],_,_,h=>by rw [show _=_ from h];rfl
 | .val _::rs,p,x::xs,h | .own _::rs,p,x::xs,h | .cl _::rs,p,x::xs,h | .fp _::rs,p,x::xs,h=>by rw [List.length_cons,List.length_cons,Zi.len h.2]
 | .val _::_,_,[],h | .own _::_,_,[],h | .cl _::_,_,[],h | .fp _::_,_,[],h=>h.elim
theorem QR: ∀ {rs:List RK} {p:Flds S (rcs rs)} {xs:List D} {r:Nat},rs.all VW=true→Zi rs p xs→(zA r xs).2= []
 | [],_,_,r,_,h=>by rw [show _=_ from h];rfl
 | .val c::rs,p,x::xs,r,hk,h=>by
  simp only [List.all_cons,Bool.and_eq_true] at hk;have e:jY r x=(x,[]):=Qd fun sz es e=>by
   have:=h.1
   rw [e] at this;exact this.notown
  simp only [zA,e,List.nil_append];exact QR hk.2 h.2
 | .fp c::rs,p,x::xs,r,hk,h=>by
  simp only [List.all_cons,Bool.and_eq_true] at hk;have e:jY r x=(x,[]):=Qd fun sz es e=>by
   obtain ⟨q,hq⟩:=h.1.fp
   rw [e] at hq;have:=Un hq
   cases this
  simp only [zA,e,List.nil_append];exact QR hk.2 h.2
 | .own _::_,_,_,_,hk,_=>by simp [VW] at hk
 | .cl _::_,_,_,_,hk,_=>by simp [VW] at hk
 | .val _::_,_,[],_,_,h | .fp _::_,_,[],_,_,h=>h.elim
def VX (rs:List RK)(vs:List (Val S)):Val S:=match tpR rs with
 | true=> .tup vs
 | false=>vs.headD .undef
theorem Xy {rs:List RK}{vs:List (Val S)}{xs:List D}{d:D}(ht:jP d=tpR rs)(hl:xs.length=rs.length)(h:zg (VSx ρ H) vs xs):VS ρ H (VX rs vs) (qa d xs):=by
 unfold VX
 cases htp:tpR rs with
 | true=>
  rw [htp] at ht
  cases d<;>first | exact ⟨_,rfl,h⟩ | cases ht
 | false=>
  rw [htp] at ht;match rs,htp with
  | [_],_=>
   match xs,hl with
   | [x],_=>
    cases vs with
    | nil=>exact h.elim
    | cons v vs=>
     have e:qa d [x]=x:=by cases d<;>first | rfl | cases ht
     rw [e];exact h.1.toVS
theorem Qy {j:Nat}: ∀ {ws:List (Nat×Blk)} {H:zf},(∀j'∈ws.map (·.1),j≠j')→hat (ye H ws) j=hat H j
 | [],H,_=>rfl
 | u::us,H,hu=>by
  show hat (ye (H.set u.1 u.2) us) j=_
  rw [Qy (H:=H.set u.1 u.2) fun j' hj'=>hu j' (by simp at hj' ⊢;exact .inr hj')]
  unfold hat;rw [List.getD_eq_getElem?_getD,List.getD_eq_getElem?_getD,List.getElem?_set_ne (fun e=>hu u.1 (by simp) e.symm)]
theorem zbf {H:zf}{id:Nat}(h:dead H id):H.modify id Go.Pi.freeze=H:=by
 obtain ⟨sz,es,hd⟩:=h
 refine List.ext_getElem? fun j=> ?_
 rw [List.getElem?_modify];by_cases e:id=j
 ·subst e;unfold hat at hd;rw [List.getD_eq_getElem?_getD] at hd
  cases hj:H[id]? with
  | none=>rfl
  | some k=>
   rw [hj] at hd;simp at hd;subst hd;simp [Go.Pi.freeze]
 ·simp only [e,if_false]
  cases H[j]? <;> rfl
theorem Zc {H:zf}: ∀ {l:List Nat},(∀j∈l,dead H j)→qD H l=H
 | [],_=>rfl
 | i::l,h=>by
  show qD (H.modify i Go.Pi.freeze) l=H
  rw [zbf (h i (by simp))];exact Zc fun j hj=>h j (by simp [hj])
theorem j1 {H:zf}{e:Eff Out}: ∀ {is:List Nat},(∀i∈is,hat H i= .fresh∧i<H.length)→(Xj is e).run H=e.run H
 | [],_=>rfl
 | i::is,h=>by
  obtain ⟨h1,h2⟩:=h i (by simp)
  simp only [Xj,Eff.run,h1,h2,if_true];exact j1 fun j hj=>h j (by simp [hj])
theorem zhD (h:zc fr b N ρ t g){f:Nat}{ps:List PK}{rs:List RK}{F:Flds S (pcs ps)→Option (Flds S (rcs rs))}(hF:FOk pr f ps rs F){args:List (Nat×PX)}{p:Flds S (pcs ps)}{r:Flds S (rcs rs)}{res:Nat}{q:List (Val S)×TS S}
  (hp:qu t (keeps (S:=S) rs) ps args=some p) (hr:F p=some r) (hi:jX rs r res t=some q) :
  ∃n o g' ρ',(zX (runN pr n) (b+res) f (args.map fun p=>(p.1,p.2.ev g.ts))).run g.hp=some o∧GhK ⟨g.ts,o.on g.hp⟩ g'∧zc fr b N ρ' q.2 g'∧VS ρ' g'.hp (VX rs q.1) o.d∧((rs.all VW&&keeps (S:=S) rs)=true→o.ws= []∧o.fz= []):=by
 obtain ⟨ds,ids,p1,p2,p3⟩:=qS h (j:=0) hp
 obtain ⟨n,d,H',r1,r2,xs,hh,rd,e1,e2,e3,e4⟩:=hF p r hr ds p2
 obtain ⟨g',ρ',k1,k2,k3,k4,k5⟩:=jq (k:=res) e4 (GhK.refl g) h hi
 have hl:(zA (b+res) xs).1.length=rs.length:=by
  have: ∀ {l:List D} {r:Nat},(zA r l).1.length=l.length:=by
   intro l;induction l with
   | nil=>intro r;rfl
   | cons d l ih=>intro r;simp [zA,ih]
  rw [this,e4.len]
 refine ⟨n,⟨qa d (zA (b+res) xs).1,(zA (b+res) xs).2,if xs.all qE then [] else ids⟩,g',ρ',?_,?_,k2,Xy r2 hl k4,fun hc=> ?_⟩
 ·simp only [zX,ze,p1,Option.bind_some,List.map_nil,zP,apart,List.all_nil,Bool.and_self,if_true,r1,finish,e1,ZJ,yL];simp only [e2,List.isEmpty_nil,Bool.true_and,List.nil_append];have h1:(hh.all fun x => !rd.contains x)=true:=e3
  have h2:(hh.all fun x => !([]:List Nat).contains x)=true:=by simp
  simp only [h1,h2,Bool.and_self,if_true];rw [j1 k5];rfl
 ·show GhK ⟨g.ts,qD (ye g.hp _) _⟩ g'
  cases hsc:xs.all qE with
  | true=>exact k1
  | false=>
   rw [if_neg (by simp),Zc (fun j hj=> ?_)]
   ·exact k1
   ·have hk:keeps (S:=S) rs=false:=by
     cases hk:keeps (S:=S) rs with
     | false=>rfl
     | true=>rw [jz hk e4] at hsc;cases hsc
    rcases p3 j hj with ⟨sz,es,hd⟩ | ⟨e,_⟩
    ·exact ⟨sz,es,by rw [Qy (fun j' hj' e=>by subst e;rw [(k5 j hj').1] at hd;cases hd)];exact hd⟩
    ·rw [hk] at e;cases e
 ·simp only [Bool.and_eq_true] at hc;exact ⟨QR hc.1 e4,by rw [if_pos (jz hc.2 e4)]⟩
end
section
variable {S:Nat→Type} [Sg:Sig S] {ρ ρ':Rho} {H H':zf} {fr:Fr} {b N:Nat} {t:TS S} {s g:St} {α:Type} {pr:yn}
theorem Xb {H:zf}{sz:Nat}{cs:List D}{ry:List Nat}(h:ZJ H 0 [(0,true)]=some ([(0,.row sz [cs] true)],ry))(id:Nat):ZJ H 0 [(id,true)]=some ([(id,.row sz [cs] true)],ry):=by
 simp only [ZJ] at h ⊢
 split at h
 ·rename_i sz' es' hh;simp only [Option.bind_eq_some_iff,Option.some.injEq,Prod.mk.injEq,Option.bind_some] at h;obtain ⟨x,h1,h2,h3⟩:=h
  simp only [List.cons.injEq,Prod.mk.injEq,Blk.row.injEq,and_true,true_and] at h2;obtain ⟨rfl,h2⟩:=h2
  simp only [h1,Option.bind_some,h2,h3]
 ·cases h
theorem Qz {H:zf}{n m:Nat}(hm:n≤m): ∀ {ds:List (List D)} {x:List (List D)×List Nat},(yf (frz n) ds).run H=some x→(yf (frz m) ds).run H=some x:=by
 have hC: ∀ {ds:List D} {x:List D×List Nat},(ym (frz n) ds).run H=some x→(ym (frz m) ds).run H=some x:=by
  intro ds;induction ds with
  | nil=>intro x h;exact h
  | cons d ds ih=>
   intro x h;simp only [ym,ze,Option.bind_eq_some_iff] at h ⊢
   obtain ⟨y,h1,z,h2,h3⟩:=h
   exact ⟨y,YS h1 hm,z,ih h2,h3⟩
 intro ds;induction ds with
 | nil=>intro x h;exact h
 | cons d ds ih=>
  intro x h;simp only [yf,ze,Option.bind_eq_some_iff] at h ⊢
  obtain ⟨y,h1,z,h2,h3⟩:=h
  exact ⟨y,hC h1,z,ih h2,h3⟩
theorem zhk (h:zc fr b N ρ t g){pn:Option Nat}{f:Nat}{c:Code}{ps:List PK}{rs:List RK}{F:T S c×Flds S (pcs ps)→Option (T S c×Flds S (rcs rs))}(hF:LOk pr f c ps rs F){x:PX}{ob:Nat}{vs:List (Val S)}{a:T S c}{args:List (Nat×PX)}{p:Flds S (pcs ps)}{r:T S c×Flds S (rcs rs)}{res:Nat}{q:List (Val S)×TS S}
  (hx:evK t x=some (.ptr ob [] 0 0)) (ho:look t.hp ob=some (.box pn vs)) (ha:mk 11 c vs=some a) (hp:qu t false ps args=some p) (hr:F (a,p)=some r) (hi:jX rs r.2 res (t.setO ob (.box pn [.one 1 c r.1]))=some q) :
  ∃n o g' ρ',(zX (runN pr n) (b+res) f (((2,x)::args).map fun p=>(p.1,p.2.ev g.ts))).run g.hp=some o∧GhK ⟨g.ts,o.on g.hp⟩ g'∧zc fr b N ρ' q.2 g'∧VS ρ' g'.hp (VX rs q.1) o.d:=by
 obtain ⟨ds,ids,p1,p2,p3⟩:=qS h (j:=1) hp
 obtain ⟨id,sz,es,c1,c2,c3,c4⟩:=h.ev hx
 obtain ⟨id',cs,k1,k2,k3,k9⟩:=h.hp _ _ ho
 rw [c1] at k1;cases k1;rw [c2] at k2;cases k2;rw [Nat.zero_mul,Nat.zero_add] at c4;have hcs:=Jq (by omega) ha k3
 have hw:yr vs=W (S:=S) c:=by rw [←k3.len,←hcs.len,yT]
 rw [hw] at c2;obtain ⟨z,z1,z2,z3⟩:=Ya (P:=fun _=>False) (Nat.le_refl 11) hcs
 have z3: ∀i∈z.2,dead g.hp i:=fun i hi=>(z3 i hi).elim (fun q=>q) fun q=>q.elim
 have zE:(yf (frz ya) [cs]).run g.hp=some ([z.1],z.2):=by
  have:(yf (frz 11) [cs]).run g.hp=some ([z.1],z.2):=by simp [yf,ze,z1,Eff.run]
  exact Qz (by decide) this
 have hids: ∀j∈z.2++ids,dead g.hp j:=by
  intro j hj;simp at hj;rcases hj with hj | hj
  ·exact z3 j hj
  ·rcases p3 j hj with h | ⟨h,_⟩
   ·exact h
   ·cases h
 have hprep:(qX (((2,x)::args).map fun p=>(p.1,p.2.ev g.ts)) 0).run g.hp=some ⟨.ptr 0 0::ds,[.row (W (S:=S) c) [z.1] true],z.2++ids,[(id,true)]⟩:=by
  simp only [List.map_cons,c4,qX,Eff.run,c2,if_true,ze,zE,Option.bind_some,p1]
 obtain ⟨n,d,H',r1,r2,xs,hd',rd,cs2,ry,e1,e2,e3,e4,e5,e6,e7,e8,e9,e10⟩:=hF (a,p) r hr z.1 ds (ZR z2) p2
 have hidl:id<g.hp.length:=yB (by rw [c2];intro e;cases e)
 have hs1:zc fr b N ρ (t.setO ob (.box pn [.one 1 c r.1])) ⟨g.ts,g.hp.set id (.row (W (S:=S) c) [cs2] true)⟩:=h.upd (es:= [cs]) (es':= [cs2]) c1 c2 rfl fun hx e1 _=>⟨id,cs2,c1,by rw [e1];simp [yr,YG],VCs.single (qb (HLe.nil _) e6),k9⟩
 obtain ⟨g',ρ',q1,q2,q3,q4,q5⟩:=jq (k:=res) e4 (GhK.refl ⟨g.ts,g.hp.set id (.row (W (S:=S) c) [cs2] true)⟩) hs1 hi
 have hne: ∀j,dead g.hp j→j≠id:=fun j hj e=>by
  obtain ⟨_,_,hj⟩:=hj
  rw [e,c2] at hj;cases hj
 have hl:(zA (b+res) xs).1.length=rs.length:=by
  have: ∀ {l:List D} {r:Nat},(zA r l).1.length=l.length:=by
   intro l;induction l with
   | nil=>intro r;rfl
   | cons d l ih=>intro r;simp [zA,ih]
  rw [this,e4.len]
 refine ⟨n,⟨qa d (zA (b+res) xs).1,(id,.row (W (S:=S) c) [cs2] true)::(zA (b+res) xs).2,z.2++ids⟩,g',ρ',?_,?_,q2,Xy r2 hl q4⟩
 ·have hap:apart [id] (z.2++ids)=true:=by
   simp only [apart,List.all_eq_true,Bool.not_eq_true',List.contains_eq_mem,decide_eq_false_iff_not];intro j hj hm;simp only [List.mem_singleton] at hj;exact hne j (hids j hm) hj
  have hnd:zP [id]=true:=by simp [zP]
  unfold zX;rw [ze,hprep];simp only [Option.bind_some,List.map_cons,List.map_nil,hap,hnd,Bool.and_self,if_true,r1,finish,e1,Xb e5 id,yL];simp only [e2,e3,e7,e8,e9,e10,Bool.and_self,if_true,List.isEmpty_cons,Bool.false_and,Bool.false_eq_true,if_false];rw [j1 (fun j hj=> ?_)]
  ·rfl
  ·obtain ⟨f1,f2⟩:=q5 j hj
   rw [zp hidl] at f1;split at f1
   ·cases f1
   ·exact ⟨f1,by simpa using f2⟩
 ·show GhK ⟨g.ts,qD (ye (g.hp.set id _) _) _⟩ g'
  rw [Zc (fun j hj=> ?_)]
  ·exact q1
  ·obtain ⟨sz',es',hj'⟩:=hids j hj
   have hn:=hne j (hids j hj)
   have h1:hat (g.hp.set id (.row (W (S:=S) c) [cs2] true)) j= .row sz' es' false:=by rw [zp hidl,if_neg hn];exact hj'
   refine ⟨sz',es',?_⟩
   rw [Qy (fun j' hj' e=> ?_)]
   ·exact h1
   ·subst e;have:=(q5 j hj').1
    rw [h1] at this;cases this
end
end Go.Pi
