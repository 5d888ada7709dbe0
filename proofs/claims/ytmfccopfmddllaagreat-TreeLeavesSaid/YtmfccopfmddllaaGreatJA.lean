import Derived.Test.YtmfccopfmddllaaGreatPiX
set_option linter.all false
namespace Go.Pi
set_option linter.unusedVariables false
def zg {α β:Type}(R:α→β→Prop):List α→List β→Prop
 | [],[]=>True
 | a::as,b::bs=>R a b∧zg R as bs
 | _,_=>False
theorem zg.len {α β:Type}{R:α→β→Prop}: ∀ {as:List α} {bs:List β},zg R as bs→as.length=bs.length
 | [],[],_=>rfl
 | a::as,b::bs,h=>by simp [zg.len h.2]
 | [],_::_,h=>h.elim
 | _::_,[],h=>h.elim
theorem zg.mono {α β:Type}{R R':α→β→Prop}: ∀ {as:List α} {bs:List β},zg R as bs→(∀a b,a∈as→R a b→R' a b)→zg R' as bs
 | [],[],_,_=>trivial
 | a::as,b::bs,h,k=>⟨k _ _ (by simp) h.1,zg.mono h.2 fun a b ha=>k a b (by simp [ha])⟩
 | [],_::_,h,_=>h.elim
 | _::_,[],h,_=>h.elim
theorem zg.get {α β:Type}{R:α→β→Prop}: ∀ {as:List α} {bs:List β},zg R as bs→ ∀ {i:Nat} {a:α},as[i]? = some a→ ∃b,bs[i]? = some b∧R a b
 | [],[],_,i,a,h=>by simp at h
 | a::as,b::bs,h,0,a',h'=>by simp at h';subst h';exact ⟨b,rfl,h.1⟩
 | a::as,b::bs,h,i+1,a',h'=>by simpa using zg.get h.2 (i:=i) (by simpa using h')
 | [],_::_,h,_,_,_=>h.elim
 | _::_,[],h,_,_,_=>h.elim
theorem zg.take {α β:Type}{R:α→β→Prop}: ∀ {as:List α} {bs:List β} (n:Nat),zg R as bs→zg R (as.take n) (bs.take n)
 | [],[],n,_=>by simp [zg]
 | a::as,b::bs,0,h=>trivial
 | a::as,b::bs,n+1,h=>⟨h.1,zg.take n h.2⟩
 | [],_::_,_,h=>h.elim
 | _::_,[],_,h=>h.elim
theorem zg.drop {α β:Type}{R:α→β→Prop}: ∀ {as:List α} {bs:List β} (n:Nat),zg R as bs→zg R (as.drop n) (bs.drop n)
 | [],[],n,_=>by simp [zg]
 | a::as,b::bs,0,h=>h
 | a::as,b::bs,n+1,h=>zg.drop n h.2
 | [],_::_,_,h=>h.elim
 | _::_,[],_,h=>h.elim
theorem zg.append {α β:Type}{R:α→β→Prop}: ∀ {as:List α} {bs:List β} {cs:List α} {ds:List β},zg R as bs→zg R cs ds→zg R (as++cs) (bs++ds)
 | [],[],_,_,_,h=>h
 | a::as,b::bs,_,_,h,k=>⟨h.1,zg.append h.2 k⟩
 | [],_::_,_,_,h,_=>h.elim
 | _::_,[],_,_,h,_=>h.elim
theorem zg.set {α β:Type}{R:α→β→Prop}: ∀ {as:List α} {bs:List β} {i:Nat} {a:α} {b:β},zg R as bs→R a b→zg R (as.set i a) (bs.set i b)
 | [],[],_,_,_,_,_=>trivial
 | a::as,b::bs,0,_,_,h,k=>⟨k,h.2⟩
 | a::as,b::bs,i+1,_,_,h,k=>⟨h.1,zg.set h.2 k⟩
 | [],_::_,_,_,_,h,_=>h.elim
 | _::_,[],_,_,_,h,_=>h.elim
theorem zg.of {α β:Type}{R:α→β→Prop}: ∀ {as:List α} {bs:List β},as.length=bs.length→(∀(i:Nat) (a:α) (b:β),as[i]? = some a→bs[i]? = some b→R a b)→zg R as bs
 | [],[],_,_=>trivial
 | a::as,b::bs,h,k=>⟨k 0 a b rfl rfl,zg.of (by simpa using h) fun i a b h1 h2=>k (i+1) a b (by simpa using h1) (by simpa using h2)⟩
 | [],_::_,h,_=>by simp at h
 | _::_,[],h,_=>by simp at h
theorem zg.eq_iff {α:Type}: ∀ {as bs:List α},zg (fun a b=>b=a) as bs↔bs=as
 | [],[]=>by simp [zg]
 | a::as,b::bs=>by simp [zg,zg.eq_iff (as:=as)]
 | [],_::_=>by simp [zg]
 | _::_,[]=>by simp [zg]
mutual
def Nr:D→D→Prop
 | .lst sz es,d=>(es= []∧d= .nil) ∨ ∃es',d= .lst sz es'∧NrE es es'
 | .fptr cs,d=> ∃ds,d= .fptr ds∧NrC cs ds
 | .agg cs,d=> ∃ds,d= .agg ds∧NrC cs ds
 | .undef,d=>d= .undef
 | .skip,d=>d= .skip
 | .bool b,d=>d= .bool b
 | .int k n,d=>d= .int k n
 | .flt b,d=>d= .flt b
 | .str t,d=>d= .str t
 | .nil,d=>d= .nil
 | .own sz es,d=>d= .own sz es
 | .ref a b c,d=>d= .ref a b c
 | .ptr a b,d=>d= .ptr a b
 | .nilp,d=>d= .nilp
 | .tup vs,d=>d= .tup vs
 | .fn f,d=>d= .fn f
def NrC:List D→List D→Prop
 | [],[]=>True
 | c::cs,d::ds=>Nr c d∧NrC cs ds
 | _,_=>False
def NrE:List (List D)→List (List D)→Prop
 | [],[]=>True
 | c::cs,d::ds=>NrC c d∧NrE cs ds
 | _,_=>False
end
theorem Qk: ∀ {cs ds:List D},NrC cs ds↔zg Nr cs ds
 | [],[]=>by simp [NrC,zg]
 | c::cs,d::ds=>by simp [NrC,zg,Qk (cs:=cs)]
 | [],_::_=>by simp [NrC,zg]
 | _::_,[]=>by simp [NrC,zg]
theorem UW: ∀ {cs ds:List (List D)},NrE cs ds↔zg (zg Nr) cs ds
 | [],[]=>by simp [NrE,zg]
 | c::cs,d::ds=>by simp [NrE,zg,UW (cs:=cs),Qk]
 | [],_::_=>by simp [NrE,zg]
 | _::_,[]=>by simp [NrE,zg]
theorem Nr.lst {sz:Nat}{es:List (List D)}{d:D}(h:Nr (.lst sz es) d):(es= []∧d= .nil) ∨ ∃es',d= .lst sz es'∧zg (zg Nr) es es':=by
 simp only [Nr] at h;rcases h with h | ⟨es',h1,h2⟩
 ·exact .inl h
 ·exact .inr ⟨es',h1,UW.1 h2⟩
theorem Nr.mk_lst {sz:Nat}{es es':List (List D)}(h:zg (zg Nr) es es'):Nr (.lst sz es) (.lst sz es'):=by
 simp only [Nr];exact .inr ⟨es',rfl,UW.2 h⟩
theorem Nr.mk_nil {sz:Nat}:Nr (.lst sz []) .nil:=by
 simp only [Nr];exact .inl ⟨trivial,trivial⟩
def sc:D→Bool
 | .bool _ | .int _ _ | .flt _ | .str _ | .undef | .skip | .nilp | .fn _=>true
 | _=>false
theorem Nr.sc {v d:D}(h:Nr v d)(hs:sc v=true):d=v:=by
 cases v<;>simp [Pi.sc] at hs<;>simpa only [Nr] using h
theorem Nr.fptr {cs:List D}{d:D}(h:Nr (.fptr cs) d): ∃ds,d= .fptr ds∧zg Nr cs ds:=by
 simp only [Nr] at h;obtain ⟨ds,h1,h2⟩:=h
 exact ⟨ds,h1,Qk.1 h2⟩
theorem Nr.mk_fptr {cs ds:List D}(h:zg Nr cs ds):Nr (.fptr cs) (.fptr ds):=by simp only [Nr];exact ⟨_,rfl,Qk.2 h⟩
theorem Nr.mk_agg {cs ds:List D}(h:zg Nr cs ds):Nr (.agg cs) (.agg ds):=by simp only [Nr];exact ⟨_,rfl,Qk.2 h⟩
def HLe (H H':zf):Prop:= ∀id sz es,hat H id= .row sz es false→hat H' id= .row sz es false
theorem HLe.refl (H:zf):HLe H H:=fun _ _ _ h=>h
def plain:D→Bool
 | .ref _ _ _ | .ptr _ _ | .agg _ | .tup _ | .own _ _=>false
 | _=>true
def Cl (H:zf):Nat→D→D→Prop
 | 0,_,_=>False
 | n+1,v,d=>(plain d=true∧Nr v d) ∨
  (∃sz es id off len es0,v= .lst sz es∧d= .ref id off len∧hat H id= .row sz es0 false∧off+len≤es0.length∧zg (zg (Cl H n)) es ((es0.drop off).take len)∧0<sz∧ ∀e∈es0,e.length≤sz) ∨
  (∃cs id i j sz es0 e,v= .fptr cs∧d= .ptr id (i*sz+j)∧hat H id= .row sz es0 false∧es0[i]? = some e∧zg (Cl H n) cs (e.drop j)∧j<sz∧e.length≤sz) ∨
  (∃cs ds,v= .agg cs∧d= .agg ds∧zg (Cl H n) cs ds)
theorem Cl.heap {H H':zf}(hh:HLe H H'): ∀ {n:Nat} {v d:D},Cl H n v d→Cl H' n v d
 | 0,_,_,h=>h
 | n+1,v,d,h=>by
  rcases h with h | ⟨sz,es,id,off,len,es0,h1,h2,h3,h4,h5,h6⟩ | ⟨cs,id,i,j,sz,es0,e,h1,h2,h3,h4,h5,h6⟩ | ⟨cs,ds,h1,h2,h3⟩
  ·exact .inl h
  ·exact .inr (.inl ⟨sz,es,id,off,len,es0,h1,h2,hh _ _ _ h3,h4,h5.mono fun a b _ h=>h.mono fun _ _ _ h=>Cl.heap hh h,h6⟩)
  ·exact .inr (.inr (.inl ⟨cs,id,i,j,sz,es0,e,h1,h2,hh _ _ _ h3,h4,h5.mono fun _ _ _ h=>Cl.heap hh h,h6⟩))
  ·exact .inr (.inr (.inr ⟨cs,ds,h1,h2,h3.mono fun _ _ _ h=>Cl.heap hh h⟩))
theorem Cl.up1 {H:zf}: ∀ {n:Nat} {v d:D},Cl H n v d→Cl H (n+1) v d
 | 0,_,_,h=>h.elim
 | n+1,v,d,h=>by
  rcases h with h | ⟨sz,es,id,off,len,es0,h1,h2,h3,h4,h5,h6⟩ | ⟨cs,id,i,j,sz,es0,e,h1,h2,h3,h4,h5,h6⟩ | ⟨cs,ds,h1,h2,h3⟩
  ·exact .inl h
  ·exact .inr (.inl ⟨sz,es,id,off,len,es0,h1,h2,h3,h4,h5.mono fun a b _ h=>h.mono fun _ _ _ h=>Cl.up1 h,h6⟩)
  ·exact .inr (.inr (.inl ⟨cs,id,i,j,sz,es0,e,h1,h2,h3,h4,h5.mono fun _ _ _ h=>Cl.up1 h,h6⟩))
  ·exact .inr (.inr (.inr ⟨cs,ds,h1,h2,h3.mono fun _ _ _ h=>Cl.up1 h⟩))
theorem Cl.up {H:zf}{n m:Nat}{v d:D}(h:Cl H n v d)(hm:n≤m):Cl H m v d:=by
 induction m with
 | zero=>
  obtain rfl:n=0:=(by omega);exact h
 | succ m ih=>
  rcases Nat.lt_or_ge n (m+1) with k | k; · exact (ih (by omega)).up1
  ·obtain rfl:n=m+1:=by omega
   exact h
theorem Cl.plain {H:zf}{n:Nat}{v d:D}(hd:plain d=true)(h:Nr v d):Cl H (n+1) v d:= .inl ⟨hd,h⟩
theorem Cl.sc {H:zf}{n:Nat}{v d:D}(h:Cl H n v d)(hs:sc v=true):d=v:=by
 cases n with
 | zero=>exact h.elim
 | succ n=>
  rcases h with h | ⟨sz,es,id,off,len,es0,rfl,h2,h3,h4,h5,h6⟩ | ⟨cs,id,i,j,sz,es0,e,rfl,h2,h3,h4,h5,h6⟩ | ⟨cs,ds,rfl,h2,h3⟩
  ·exact h.2.sc hs
  all_goals simp [Pi.sc] at hs
def dead (H:zf)(id:Nat):Prop:= ∃sz es,hat H id= .row sz es false
theorem Z8 {H:zf}{f:D→Eff (D×List Nat)}{R:D→D→Prop}: ∀ {vs ds:List D},zg R vs ds→(∀v d,R v d→ ∃x,(f d).run H=some x∧Nr v x.1∧ ∀i∈x.2,dead H i) →
  ∃x,(ym f ds).run H=some x∧zg Nr vs x.1∧ ∀i∈x.2,dead H i
 | [],[],_,_=>⟨([],[]),rfl,trivial,by simp⟩
 | v::vs,d::ds,h,k=>by
  obtain ⟨x,h1,h2,h3⟩:=k v d h.1
  obtain ⟨y,h4,h5,h6⟩:=Z8 h.2 k
  refine ⟨(x.1::y.1,x.2++y.2),by simp [ym,ze,h1,h4,Eff.run],⟨h2,h5⟩,fun i hi=> ?_⟩
  simp at hi;exact hi.elim (h3 i) (h6 i)
 | [],_::_,h,_=>h.elim
 | _::_,[],h,_=>h.elim
theorem zaW {H:zf}{f:D→Eff (D×List Nat)}{R:D→D→Prop}: ∀ {vs ds:List (List D)},zg (zg R) vs ds→(∀v d,R v d→ ∃x,(f d).run H=some x∧Nr v x.1∧ ∀i∈x.2,dead H i) →
  ∃x,(yf f ds).run H=some x∧zg (zg Nr) vs x.1∧ ∀i∈x.2,dead H i
 | [],[],_,_=>⟨([],[]),rfl,trivial,by simp⟩
 | v::vs,d::ds,h,k=>by
  obtain ⟨x,h1,h2,h3⟩:=Z8 h.1 k
  obtain ⟨y,h4,h5,h6⟩:=zaW h.2 k
  refine ⟨(x.1::y.1,x.2++y.2),by simp [yf,ze,h1,h4,Eff.run],⟨h2,h5⟩,fun i hi=> ?_⟩
  simp at hi;exact hi.elim (h3 i) (h6 i)
 | [],_::_,h,_=>h.elim
 | _::_,[],h,_=>h.elim
theorem Cl.frz {H:zf}: ∀ {n:Nat} {v d:D},Cl H n v d→ ∃x,(frz n d).run H=some x∧Nr v x.1∧ ∀i∈x.2,dead H i
 | 0,_,_,h=>h.elim
 | n+1,v,d,h=>by
  rcases h with ⟨h,k⟩ | ⟨sz,es,id,off,len,es0,rfl,rfl,h3,h4,h5,h6⟩ | ⟨cs,id,i,j,sz,es0,e,rfl,rfl,h3,h4,h5,h6,h7⟩ | ⟨cs,ds,rfl,rfl,h3⟩
  ·refine ⟨(d,[]),?_,k,by simp⟩
   cases d<;>simp [Pi.plain] at h<;>rfl
  ·obtain ⟨x,k1,k2,k3⟩:=zaW h5 fun v d h=>Cl.frz h
   refine ⟨(.lst sz x.1,id::x.2),?_,Nr.mk_lst k2,fun i hi=> ?_⟩
   ·simp only [Pi.frz,Eff.run,h3,h4,if_true,ze,k1,Option.bind_some]
   ·simp at hi;rcases hi with rfl | hi
    ·exact ⟨_,_,h3⟩
    ·exact k3 i hi
  ·obtain ⟨x,k1,k2,k3⟩:=Z8 h5 fun v d h=>Cl.frz h
   refine ⟨(.fptr x.1,id::x.2),?_,Nr.mk_fptr k2,fun k hi=> ?_⟩
   ·have q1:(i*sz+j) / sz=i:=by rw [Nat.mul_comm,Nat.mul_add_div (by omega),Nat.div_eq_of_lt h6];omega
    have q2:(i*sz+j) % sz=j:=by rw [Nat.mul_comm,Nat.mul_add_mod,Nat.mod_eq_of_lt h6]
    simp only [Pi.frz,Eff.run,h3,q1,q2,h4,ze,k1,Option.bind_some]
   ·simp at hi;rcases hi with rfl | hi
    ·exact ⟨_,_,h3⟩
    ·exact k3 k hi
  ·obtain ⟨x,k1,k2,k3⟩:=Z8 h3 fun v d h=>Cl.frz h
   exact ⟨(.agg x.1,x.2),by simp only [Pi.frz,Eff.run,ze,k1,Option.bind_some],Nr.mk_agg k2,k3⟩
theorem zcZ {H:zf}: ∀ {n:Nat} {d:D} {x:D×List Nat},(frz n d).run H=some x→(frz (n+1) d).run H=some x
 | 0,_,_,h=>by simp [frz,Eff.run] at h
 | n+1,d,x,h=>by
  have hC: ∀ {ds:List D} {x:List D×List Nat},(ym (frz n) ds).run H=some x→(ym (frz (n+1)) ds).run H=some x:=by
   intro ds;induction ds with
   | nil=>intro x h;exact h
   | cons d ds ih=>
    intro x h;simp only [ym,ze,Option.bind_eq_some_iff] at h ⊢
    obtain ⟨y,h1,z,h2,h3⟩:=h
    exact ⟨y,zcZ h1,z,ih h2,h3⟩
  have hE: ∀ {ds:List (List D)} {x:List (List D)×List Nat},(yf (frz n) ds).run H=some x→(yf (frz (n+1)) ds).run H=some x:=by
   intro ds;induction ds with
   | nil=>intro x h;exact h
   | cons d ds ih=>
    intro x h;simp only [yf,ze,Option.bind_eq_some_iff] at h ⊢
    obtain ⟨y,h1,z,h2,h3⟩:=h
    exact ⟨y,hC h1,z,ih h2,h3⟩
  cases d with
  | ref id off len=>
   simp only [frz,Eff.run] at h ⊢
   split at h
   ·split at h
    ·rename_i sz es lv hh hl;simp only [ze,Option.bind_eq_some_iff] at h;obtain ⟨y,h1,h2⟩:=h
     simp only [if_pos hl,ze,hE h1,Option.bind_some];exact h2
    ·simp [Eff.run] at h
   ·cases h
  | ptr id off=>
   simp only [frz,Eff.run] at h ⊢
   split at h
   ·split at h
    ·simp only [ze,Option.bind_eq_some_iff] at h;obtain ⟨y,h1,h2⟩:=h
     simp only [ze,hC h1,Option.bind_some];exact h2
    ·simp [Eff.run] at h
   ·cases h
  | agg cs=>
   simp only [frz,ze,Option.bind_eq_some_iff] at h ⊢
   obtain ⟨y,h1,h2⟩:=h
   exact ⟨y,hC h1,h2⟩
  | _=>exact h
theorem YS {H:zf}{n m:Nat}{d:D}{x:D×List Nat}(h:(frz n d).run H=some x)(hm:n≤m):(frz m d).run H=some x:=by
 induction m with
 | zero=>
  obtain rfl:n=0:=(by omega);exact h
 | succ m ih=>
  rcases Nat.lt_or_ge n (m+1) with k | k; · exact zcZ (ih (by omega))
  ·obtain rfl:n=m+1:=by omega
   exact h
end Go.Pi
