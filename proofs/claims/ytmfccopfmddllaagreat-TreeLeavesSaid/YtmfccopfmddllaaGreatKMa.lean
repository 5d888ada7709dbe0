import Derived.Test.YtmfccopfmddllaaGreatJA
import Derived.Test.YtmfccopfmddllaaGreatPiX
set_option linter.all false
namespace Go.Pi
set_option linter.unusedVariables false
def at? {α:Type}(l:List α)(z:Int):Option α:=if 0≤z then l[z.toNat]? else none
def room {α:Type}(n bytes:Nat)(m:Option α):Option α:=if n≤roomy∧n*bytes≤roomy then m else none
def sl {α:Type}(l:List α)(p:Nat×Nat):List α:=(l.drop p.1).take (p.2-p.1)
def nz {α:Type}(z:Int)(m:Option α):Option α:=if z=0 then none else m
def nn {α:Type}(z:Int)(m:Option α):Option α:=if z<0 then none else m
def inr? {α:Type}(z:Int)(n:Nat)(m:Option α):Option α:=if 0≤z∧z<n then m else none
def mkS (bytes:Nat)(n:Int):Option Nat:=if 0≤n∧n≤roomy∧n*bytes≤roomy then some n.toNat else none
def zeU {α:Type}(e:Fl)(f:Nat→Option α)(z:Option α):Option α:=match e with
 | some n=>f n
 | none=>z
def Uy (l:List Int):List UInt8:=l.map fun n=>UInt8.ofNat n.toNat
def QM (t:List UInt8):List Int:=t.map fun c=>((c.toNat:Nat):Int)
def iter {P Q:Type}:Nat→(P→Option (P ⊕ Q))→P→Option Q
 | 0,_,_=>none
 | k+1,f,p=>(f p).bind fun x=>match x with
  | .inl p'=>iter k f p'
  | .inr q=>some q
inductive Code where
 | int (k:IntKind)
 | bool
 | flt
 | str
 | list (c:Code)
 | own (c:Code)
 | arr (n:Nat) (k:IntKind)
 | st (i:Nat)
 deriving DecidableEq,Inhabited
section
variable (S:Nat→Type)
@[reducible] def T:Code→Type
 | .int _=>Int
 | .bool=>Bool
 | .flt=>Fl
 | .str=>List UInt8
 | .list c=>List (T c)
 | .own c=>List (T c)
 | .arr n _=> {l:List Int // l.length=n}
 | .st i=>S i
@[reducible] def Flds:List Code→Type
 | []=>Unit
 | c::cs=>T S c×Flds cs
end
section
variable {S:Nat→Type}
def wid (wd:Nat→Nat):Code→Nat
 | .arr n _=>n
 | .st i=>wd i
 | _=>1
def YF (wd:Nat→Nat)(Dd: ∀i,S i→List D):(c:Code)→T S c→List D
 | .int k,n=> [.int k n]
 | .bool,b=> [.bool b]
 | .flt,f=> [.flt f]
 | .str,s=> [.str s]
 | .list c,l=> [.lst (wid wd c) (List.map (YF wd Dd c) l)]
 | .own c,l=> [.lst (wid wd c) (List.map (YF wd Dd c) l)]
 | .arr _ k,a=>a.1.map fun n=> .int k n
 | .st i,v=>Dd i v
def zbn (wd:Nat→Nat)(Dd: ∀i,S i→List D):(cs:List Code)→Flds S cs→List D
 | [],_=> []
 | c::cs,p=>YF wd Dd c p.1++zbn wd Dd cs p.2
end
def yw:D→Bool
 | .int _ _=>true
 | .bool _=>true
 | .flt _=>true
 | .str _=>true
 | .lst _ _=>true
 | _=>false
def zkF (wd:Nat→Nat):List Code→Nat
 | []=>0
 | c::cs=>wid wd c+zkF wd cs
class Sig (S:Nat→Type) where
 wd:Nat→Nat
 Dd: ∀i,S i→List D
 fields:Nat→List Code
 split: ∀i,S i→Flds S (fields i)
 join: ∀i,Flds S (fields i)→S i
 sj: ∀i f,split i (join i f)=f
 hD: ∀i v,Dd i v=zbn wd Dd (fields i) (split i v)
 hw: ∀i,wd i=zkF wd (fields i)
 hl: ∀i v,(Dd i v).length=wd i
 hc: ∀i v, ∀d∈Dd i v,yw d=true
section
variable {S:Nat→Type} [Sg:Sig S]
abbrev W (c:Code):Nat:=wid (Sg.wd) c
abbrev en (c:Code)(v:T S c):List D:=YF Sg.wd Sg.Dd c v
theorem yT: ∀(c:Code) (v:T S c),(en c v).length=W (S:=S) c
 | .int _,_ | .bool,_ | .flt,_ | .str,_ | .list _,_ | .own _,_=>rfl
 | .arr n k,a=>by simp [YF,wid,a.2]
 | .st i,v=>Sg.hl i v
theorem qL: ∀(c:Code) (v:T S c), ∀d∈en c v,yw d=true
 | .int _,_,_,h | .bool,_,_,h | .flt,_,_,h | .str,_,_,h | .list _,_,_,h | .own _,_,_,h=>by
  cases h with
  | head=>rfl
  | tail _ h=>cases h
 | .arr n k,a,d,h=>by
  obtain ⟨x,_,rfl⟩:=List.mem_map.mp h
  rfl
 | .st i,v,d,h=>Sg.hc i v d h
def Code.sim:Code→Code→Bool
 | .int k,.int k'=>decide (k=k')
 | .bool,.bool=>true
 | .flt,.flt=>true
 | .str,.str=>true
 | .list c,.list d=>c.sim d
 | .list c,.own d=>c.sim d
 | .own c,.list d=>c.sim d
 | .own c,.own d=>c.sim d
 | .arr n k,.arr m k'=>Nat.beq n m&&decide (k=k')
 | .st i,.st j=>Nat.beq i j
 | _,_=>false
omit Sg in
theorem Xw (Dd: ∀i,S i→List D)(wd:Nat→Nat): ∀ {c d:Code},c.sim d=true→ ∃h:T S c=T S d,wid wd c=wid wd d∧ ∀v,YF wd Dd d (cast h v)=YF wd Dd c v
 | .int k,.int k',h=>by simp [Code.sim] at h;subst h;exact ⟨rfl,rfl,fun _=>rfl⟩
 | .bool,.bool,_ | .flt,.flt,_ | .str,.str,_=>⟨rfl,rfl,fun _=>rfl⟩
 | .arr n k,.arr m k',h=>by
  simp only [Code.sim,Bool.and_eq_true,decide_eq_true_eq] at h;obtain ⟨h1,rfl⟩:=h
  obtain rfl:=Nat.eq_of_beq_eq_true h1
  exact ⟨rfl,rfl,fun _=>rfl⟩
 | .st i,.st j,h=>by
  obtain rfl:=Nat.eq_of_beq_eq_true h
  exact ⟨rfl,rfl,fun _=>rfl⟩
 | .list c,.list d,h | .list c,.own d,h | .own c,.list d,h | .own c,.own d,h=>by
  obtain ⟨h1,h2,h3⟩:=Xw Dd wd (c:=c) (d:=d) h
  refine ⟨by simp only [T,h1],rfl,fun v=> ?_⟩
  simp only [YF,h2];refine congrArg (fun x=> [D.lst (wid wd d) x]) ?_
  have: ∀(A B:Type) (e:A=B) (e':List A=List B) (f:A→List D) (g:B→List D),(∀a,g (cast e a)=f a)→ ∀v:List A,List.map g (cast e' v)=List.map f v:=by
   intro A B e e' f g hfg v;subst e;exact congrArg (fun q=>List.map q v) (funext hfg)
  exact this _ _ h1 _ _ _ h3 v
 | .int _,.bool,h | .int _,.flt,h | .int _,.str,h | .int _,.list _,h | .int _,.own _,h | .int _,.arr _ _,h | .int _,.st _,h=>nomatch h
 | .bool,.int _,h | .bool,.flt,h | .bool,.str,h | .bool,.list _,h | .bool,.own _,h | .bool,.arr _ _,h | .bool,.st _,h=>nomatch h
 | .flt,.int _,h | .flt,.bool,h | .flt,.str,h | .flt,.list _,h | .flt,.own _,h | .flt,.arr _ _,h | .flt,.st _,h=>nomatch h
 | .str,.int _,h | .str,.bool,h | .str,.flt,h | .str,.list _,h | .str,.own _,h | .str,.arr _ _,h | .str,.st _,h=>nomatch h
 | .list _,.int _,h | .list _,.bool,h | .list _,.flt,h | .list _,.str,h | .list _,.arr _ _,h | .list _,.st _,h=>nomatch h
 | .own _,.int _,h | .own _,.bool,h | .own _,.flt,h | .own _,.str,h | .own _,.arr _ _,h | .own _,.st _,h=>nomatch h
 | .arr _ _,.int _,h | .arr _ _,.bool,h | .arr _ _,.flt,h | .arr _ _,.str,h | .arr _ _,.list _,h | .arr _ _,.own _,h | .arr _ _,.st _,h=>nomatch h
 | .st _,.int _,h | .st _,.bool,h | .st _,.flt,h | .st _,.str,h | .st _,.list _,h | .st _,.own _,h | .st _,.arr _ _,h=>nomatch h
def conv (c d:Code)(v:T S c):Option (T S d):=if h:c.sim d=true then some (cast (Xw Sg.Dd Sg.wd h).1 v) else none
theorem jJ {c d:Code}{v:T S c}{w:T S d}(h:conv c d v=some w):en d w=en c v∧W (S:=S) c=W (S:=S) d:=by
 simp only [conv] at h;split at h
 ·rename_i hs
  cases h;exact ⟨(Xw Sg.Dd Sg.wd hs).2.2 v,(Xw Sg.Dd Sg.wd hs).2.1⟩
 ·cases h
end
mutual
theorem Nr.rfl': ∀d:D,Nr d d
 | .lst sz es=> .inr ⟨es,rfl,Nr.rflE es⟩
 | .fptr cs=>⟨cs,rfl,Nr.rflC cs⟩
 | .agg cs=>⟨cs,rfl,Nr.rflC cs⟩
 | .undef | .skip | .bool _ | .int _ _ | .flt _ | .str _ | .nil | .own _ _ | .ref _ _ _ | .ptr _ _ | .nilp | .tup _ | .fn _=>rfl
theorem Nr.rflC: ∀l:List D,NrC l l
 | []=>trivial
 | c::cs=>⟨Nr.rfl' c,Nr.rflC cs⟩
theorem Nr.rflE: ∀l:List (List D),NrE l l
 | []=>trivial
 | c::cs=>⟨Nr.rflC c,Nr.rflE cs⟩
end
inductive Val (S:Nat→Type) where
 | undef
 | skip
 | nil
 | nilp
 | fn (n:Nat)
 | one (n:Nat) (c:Code) (v:T S c)
 | agg (vs:List (Val S))
 | tup (vs:List (Val S))
 | whole (o:Nat) (p:List Nat)
 | win (o:Nat) (p:List Nat) (off len:Nat)
 | ptr (o:Nat) (p:List Nat) (i j:Nat)
 | fp (n:Nat) (c:Code) (v:T S c) (j:Nat)
 | pa (o j z len:Nat)
inductive Obj (S:Nat→Type) where
 | row (n:Nat) (e:Code) (l:List (T S e))
 | box (pn:Option Nat) (vs:List (Val S))
structure TS (S:Nat→Type) where
 sl:List (Nat×Val S)
 hp:List (Nat×Obj S)
 nx:Nat
 av:List Nat
 gh:Bool
def look {α:Type}:List (Nat×α)→Nat→Option α
 | [],_=>none
 | (j,v)::E,i=>match Nat.beq j i with
  | true=>some v
  | false=>look E i
def rem {α:Type}:List (Nat×α)→Nat→List (Nat×α)
 | [],_=> []
 | (j,v)::E,i=>match Nat.beq j i with
  | true=>rem E i
  | false=>(j,v)::rem E i
theorem XO {α:Type}: ∀ {E:List (Nat×α)} {i j:Nat} {v:α},look (rem E i) j=some v→look E j=some v∧j≠i
 | [],_,_,_,h=>nomatch h
 | (k,w)::E,i,j,v,h=>by
  simp only [rem] at h;split at h
  ·rename_i hk;obtain ⟨h1,h2⟩:=XO h
   refine ⟨?_,h2⟩
   have hkj:Nat.beq k j=false:=by
    rw [Nat.eq_of_beq_eq_true hk]
    cases q:Nat.beq i j
    ·rfl
    ·exact absurd (Nat.eq_of_beq_eq_true q).symm h2
   simp only [look,hkj,h1]
  ·rename_i hk;simp only [look] at h ⊢
   split at h
   ·rename_i q
    cases h;refine ⟨rfl,fun e=> ?_⟩
    subst e;rw [q] at hk
    cases hk
   ·exact XO h
section
variable {S:Nat→Type} [Sg:Sig S]
abbrev Rho:=Nat→List Nat→Option (Option Nat)
def yN:Option Nat→Nat→D
 | some id,n=> .ref id 0 n
 | none,_=> .nil
def VR1 (ρ:Rho)(H:zf):Val S→D→Prop
 | .undef,_=>True
 | .skip,d=>d= .skip
 | .nil,d=>d= .nil
 | .nilp,d=>d= .nilp
 | .fn n,d=>d= .fn n
 | .whole o p,d=>(∃id sz es,ρ o p=some (some id)∧hat H id= .row sz es true∧d= .ref id 0 es.length)∨(ρ o p=some none∧d= .nil)
 | .win o p off len,d=>(∃id sz es,ρ o p=some (some id)∧hat H id= .row sz es true∧off+len≤es.length∧d= .ref id off len)∨(ρ o p=some none∧off=0∧len=0∧d= .nil)
 | .ptr o p i j,d=> ∃id sz es,ρ o p=some (some id)∧hat H id= .row sz es true∧j<sz∧d= .ptr id (i*sz+j)
 | .fp n c v j,d=> ∃r,Cl H n (.fptr ((en c v).drop j++r)) d
 | .pa o j z len,d=> ∃id sz es,ρ o []=some (some id)∧hat H id= .row sz es true∧z<len∧j+z<sz∧d= .ptr id (j+z)
 | .one _ _ _,_=>False
 | .agg _,_=>False
 | .tup _,_=>False
def VC (ρ:Rho)(H:zf):Val S→List D→Prop
 | .one n c v,ds=>zg (Cl H n) (en c v) ds
 | v,ds=> ∃d,ds= [d]∧VR1 ρ H v d
def VCs (ρ:Rho)(H:zf):List (Val S)→List D→Prop
 | [],ds=>ds= []
 | v::vs,ds=> ∃a b,ds=a++b∧VC ρ H v a∧VCs ρ H vs b
def isAgg:Code→Bool
 | .arr _ _=>true
 | .st _=>true
 | _=>false
def VSx (ρ:Rho)(H:zf):Val S→D→Prop
 | .one n c v,d=>match isAgg c with
  | true=> ∃ds,d= .agg ds∧zg (Cl H n) (en c v) ds
  | false=>zg (Cl H n) (en c v) [d]
 | .agg vs,d=> ∃ds,d= .agg ds∧VCs ρ H vs ds
 | v,d=>VR1 ρ H v d
def VS (ρ:Rho)(H:zf):Val S→D→Prop
 | .tup vs,d=> ∃ds,d= .tup ds∧zg (VSx ρ H) vs ds
 | v,d=>VSx ρ H v d
def qe {α:Type}(H:zf)(sz:Nat)(ρ:List Nat→Option (Option Nat))(l:List α)(E:Nat→α→List D→Prop):Prop:=
 (ρ []=some none∧l= []) ∨ ∃id es,ρ []=some (some id)∧hat H id= .row sz es true∧es.length=l.length∧ ∀i v,l[i]? = some v→ ∃ds,es[i]? = some ds∧E i v ds
def zw (H:zf)(n:Nat):(e:Code)→(List Nat→Option (Option Nat))→List (T S e)→Prop
 | .own e,ρ,l=>qe H 1 ρ l fun i v ds=> ∃x,ρ [i]=some x∧ds= [yN x (List.length v)]∧zw H n e (fun q=>ρ (i::q)) v
 | .int k,ρ,l=>qe H 1 ρ l fun _ v ds=>zg (Cl H n) (en (.int k) v) ds
 | .bool,ρ,l=>qe H 1 ρ l fun _ v ds=>zg (Cl H n) (en .bool v) ds
 | .flt,ρ,l=>qe H 1 ρ l fun _ v ds=>zg (Cl H n) (en .flt v) ds
 | .str,ρ,l=>qe H 1 ρ l fun _ v ds=>zg (Cl H n) (en .str v) ds
 | .list c,ρ,l=>qe H 1 ρ l fun _ v ds=>zg (Cl H n) (en (.list c) v) ds
 | .arr m k,ρ,l=>qe H m ρ l fun _ v ds=>zg (Cl H n) (en (.arr m k) v) ds
 | .st i,ρ,l=>qe H (W (S:=S) (.st i)) ρ l fun _ v ds=>zg (Cl H n) (en (.st i) v) ds
def zW:Code→Bool
 | .own _=>true
 | _=>false
theorem Xh {H:zf}{n:Nat}{e:Code}(he:zW e=false)(ρ:List Nat→Option (Option Nat))(l:List (T S e)) :
  zw H n e ρ l=qe H (W (S:=S) e) ρ l (fun _ v ds=>zg (Cl H n) (en e v) ds):=by
 cases e<;>first | rfl | cases he
def YG:Val S→Nat
 | .one _ c _=>W (S:=S) c
 | _=>1
def yr:List (Val S)→Nat
 | []=>0
 | v::vs=>YG v+yr vs
structure Fr where
 f:Nat→Option Blk
 pin:Nat→Nat
instance : CoeFun Fr fun _ => Nat → Option Blk := ⟨Fr.f⟩
def zlI (fr:Fr):Option Nat→Nat→Prop
 | none,_=>True
 | some k,id=>id=fr.pin k
def qn (fr:Fr)(ρ:Rho)(H:zf)(o:Nat):Obj S→Prop
 | .row n e l=>zw H n e (ρ o) l
 | .box pn vs=> ∃id ds,ρ o []=some (some id)∧hat H id= .row (yr vs) [ds] true∧VCs ρ H vs ds∧zlI fr pn id
structure zc (fr:Fr) (b N:Nat) (ρ:Rho) (t:TS S) (s:St):Prop where
 len:s.ts.length=N
 sl: ∀i v,look t.sl i=some v→VS ρ s.hp v (s.ts.getD i .undef)
 hp: ∀o ob,look t.hp o=some ob→qn fr ρ s.hp o ob
 inj: ∀o p o' p' id,ρ o p=some (some id)→ρ o' p'=some (some id)→o=o'∧p=p'
 liv: ∀o p id,ρ o p=some (some id)→fr id=none∧ ∃sz es,hat s.hp id= .row sz es true
 nxt: ∀o p,t.nx≤o→ρ o p=none
 frm: ∀id k,fr id=some k→hat s.hp id=k∧id<s.hp.length
 avl:t.av.Nodup∧ ∀r∈t.av,hat s.hp (b+r)= .fresh∧b+r<s.hp.length∧fr (b+r)=none
structure Ext (ρ:Rho) (H:zf) (ρ':Rho) (H':zf):Prop where
 hle:HLe H H'
 map: ∀o p x,ρ o p=some x→ρ' o p=some x
 row: ∀o p id sz es,ρ o p=some (some id)→hat H id= .row sz es true→ ∃es',hat H' id= .row sz es' true∧es'.length=es.length
variable {ρ ρ':Rho} {H H':zf}
theorem Ext.refl (ρ:Rho)(H:zf):Ext ρ H ρ H:=⟨HLe.refl H,fun _ _ _ h=>h,fun _ _ _ _ es _ h=>⟨es,h,rfl⟩⟩
theorem VR1.ext (x:Ext ρ H ρ' H'){v:Val S}{d:D}(h:VR1 ρ H v d):VR1 ρ' H' v d:=by
 cases v with
 | whole o p=>
  rcases h with ⟨id,sz,es,h1,h2,rfl⟩ | ⟨h1,rfl⟩
  ·obtain ⟨es',h3,h4⟩:=x.row _ _ _ _ _ h1 h2
   exact .inl ⟨id,sz,es',x.map _ _ _ h1,h3,by rw [h4]⟩
  ·exact .inr ⟨x.map _ _ _ h1,rfl⟩
 | win o p off len=>
  rcases h with ⟨id,sz,es,h1,h2,h3,rfl⟩ | ⟨h1,h2⟩
  ·obtain ⟨es',h4,h5⟩:=x.row _ _ _ _ _ h1 h2
   exact .inl ⟨id,sz,es',x.map _ _ _ h1,h4,by rw [h5];exact h3,rfl⟩
  ·exact .inr ⟨x.map _ _ _ h1,h2⟩
 | ptr o p i j=>
  obtain ⟨id,sz,es,h1,h2,h3,rfl⟩:=h
  obtain ⟨es',h5,h4⟩:=x.row _ _ _ _ _ h1 h2
  exact ⟨id,sz,es',x.map _ _ _ h1,h5,h3,rfl⟩
 | fp n c v j=>
  obtain ⟨r,h⟩:=h
  exact ⟨r,h.heap x.hle⟩
 | pa o j z len=>
  obtain ⟨id,sz,es,h1,h2,h3,h4,rfl⟩:=h
  obtain ⟨es',h5,_⟩:=x.row _ _ _ _ _ h1 h2
  exact ⟨id,sz,es',x.map _ _ _ h1,h5,h3,h4,rfl⟩
 | _=>exact h
theorem qb {n:Nat}(x:HLe H H'){cs ds:List D}(h:zg (Cl H n) cs ds):zg (Cl H' n) cs ds:=h.mono fun _ _ _ h=>h.heap x
theorem VC.ext (x:Ext ρ H ρ' H'){v:Val S}{ds:List D}(h:VC ρ H v ds):VC ρ' H' v ds:=by
 cases v with
 | one n c v=>exact qb x.hle h
 | _=>exact let ⟨d,e,h⟩:=h; ⟨d,e,h.ext x⟩
theorem VCs.ext (x:Ext ρ H ρ' H'): ∀ {vs:List (Val S)} {ds:List D},VCs ρ H vs ds→VCs ρ' H' vs ds
 | [],_,h=>h
 | _::_,_,⟨a,b,e,h,k⟩=>⟨a,b,e,h.ext x,VCs.ext x k⟩
theorem VSx.ext (x:Ext ρ H ρ' H'){v:Val S}{d:D}(h:VSx ρ H v d):VSx ρ' H' v d:=by
 cases v with
 | one n c v=>
  simp only [VSx] at h ⊢
  split at h
  ·obtain ⟨ds,h1,h2⟩:=h
   exact ⟨ds,h1,qb x.hle h2⟩
  ·exact qb x.hle h
 | agg vs=>exact let ⟨ds,e,h⟩:=h; ⟨ds,e,h.ext x⟩
 | _=>simp only [VSx] at h ⊢;exact h.ext x
theorem VS.ext (x:Ext ρ H ρ' H'){v:Val S}{d:D}(h:VS ρ H v d):VS ρ' H' v d:=by
 cases v with
 | tup vs=>exact let ⟨ds,e,h⟩:=h; ⟨ds,e,h.mono fun _ _ _ h=>h.ext x⟩
 | _=>simp only [VS] at h ⊢;exact h.ext x
theorem qe.ext {α:Type}{sz:Nat}{q q':List Nat→Option (Option Nat)}{l:List α}{E E':Nat→α→List D→Prop}(hm: ∀p x,q p=some x→q' p=some x)
  (hh: ∀p id,q p=some (some id)→hat H' id=hat H id) (hE: ∀i v ds,l[i]? = some v→E i v ds→E' i v ds) (h:qe H sz q l E):qe H' sz q' l E':=by
 rcases h with ⟨h1,h2⟩ | ⟨id,es,h1,h2,h3,h4⟩
 ·exact .inl ⟨hm _ _ h1,h2⟩
 ·exact .inr ⟨id,es,hm _ _ h1,by rw [hh _ _ h1,h2],h3,fun i v hv=>let ⟨ds,k1,k2⟩:=h4 i v hv; ⟨ds,k1,hE i v ds hv k2⟩⟩
theorem zw.ext {n:Nat}(x:HLe H H'): ∀ {e:Code} {q q':List Nat→Option (Option Nat)} {l:List (T S e)},(∀p x,q p=some x→q' p=some x)→(∀p id,q p=some (some id)→hat H' id=hat H id) →
  zw H n e q l→zw H' n e q' l
 | .own e,q,q',l,hm,hh,h=>qe.ext hm hh (fun i v ds _ ⟨y,h1,h2,h3⟩=>⟨y,hm _ _ h1,h2,zw.ext x (e:=e) (fun p z hz=>hm _ _ hz) (fun p id hz=>hh _ _ hz) h3⟩) h
 | .int _,_,_,_,hm,hh,h | .bool,_,_,_,hm,hh,h | .flt,_,_,_,hm,hh,h | .str,_,_,_,hm,hh,h | .list _,_,_,_,hm,hh,h | .arr _ _,_,_,_,hm,hh,h | .st _,_,_,_,hm,hh,h=>
  qe.ext hm hh (fun _ _ _ _ h=>qb x h) h
theorem qn.ext {fr:Fr}{o:Nat}{ob:Obj S}(x:Ext ρ H ρ' H')(hh: ∀p id,ρ o p=some (some id)→hat H' id=hat H id)(h:qn fr ρ H o ob):qn fr ρ' H' o ob:=by
 cases ob with
 | row n e l=>exact zw.ext x.hle (x.map o) hh h
 | box pn vs=>
  obtain ⟨id,ds,h1,h2,h3,h9⟩:=h
  exact ⟨id,ds,x.map _ _ _ h1,by rw [hh _ _ h1,h2],h3.ext x,h9⟩
def TS.put (t:TS S)(i:Nat)(v:Val S):TS S:= { t with sl:=(i,v)::rem t.sl i }
theorem XP {α:Type}{E:List (Nat×α)}{i j:Nat}{v w:α}(h:look ((i,v)::rem E i) j=some w):(j=i∧w=v)∨(j≠i∧look E j=some w):=by
 simp only [look] at h;split at h
 ·rename_i q
  cases h;exact .inl ⟨(Nat.eq_of_beq_eq_true q).symm,rfl⟩
 ·have:=XO h
  exact .inr ⟨this.2,this.1⟩
variable {fr:Fr} {b N:Nat} {t:TS S} {s:St}
theorem zc.put (h:zc fr b N ρ t s){i:Nat}{v:Val S}{d:D}(hi:i<N)(hv:VS ρ s.hp v d):zc fr b N ρ (t.put i v) ⟨s.ts.set i d,s.hp⟩ where
 len:=by simp [h.len]
 sl:=fun j w hw=>by
  rcases XP hw with ⟨rfl,rfl⟩ | ⟨hj,hw⟩
  ·simpa [List.getD,h.len,hi] using hv
  ·have:=h.sl j w hw
   simpa [List.getD,List.getElem?_set,Ne.symm hj] using this
 hp:=h.hp
 inj:=h.inj
 liv:=h.liv
 nxt:=h.nxt
 frm:=h.frm
 avl:=h.avl
def Vp (P:Nat→List Nat→Bool):Val S→Bool
 | .whole q p=>P q p
 | .win q p _ _=>P q p
 | .ptr q p _ _=>P q p
 | .pa q _ _ _=>P q []
 | _=>false
def zcq (P:Nat→List Nat→Bool):List (Val S)→Bool
 | []=>false
 | v::vs=>Vp P v || zcq P vs
def zeO (P:Nat→List Nat→Bool):Val S→Bool
 | .agg vs=>zcq P vs
 | v=>Vp P v
def zeN (P:Nat→List Nat→Bool):List (Val S)→Bool
 | []=>false
 | v::vs=>zeO P v || zeN P vs
def ziI (P:Nat→List Nat→Bool):Val S→Bool
 | .tup vs=>zeN P vs
 | v=>zeO P v
def QY (P:Nat→List Nat→Bool)(v:Val S):Val S:=match Vp P v with
 | true=> .undef
 | false=>v
def Uu (P:Nat→List Nat→Bool):Obj S→Obj S
 | .box pn vs=> .box pn (vs.map (QY P))
 | ob=>ob
def Ut (P:Nat→List Nat→Bool)(v:Val S):Val S:=match ziI P v with
 | true=> .undef
 | false=>v
def QZ (P:Nat→List Nat→Bool):List (Nat×Val S)→List (Nat×Val S)
 | []=> []
 | (i,v)::E=>(i,Ut P v)::QZ P E
def XF (P:Nat→List Nat→Bool):List (Nat×Obj S)→List (Nat×Obj S)
 | []=> []
 | (i,v)::E=>match P i [] with
  | true=>XF P E
  | false=>(i,Uu P v)::XF P E
def TS.clear (t:TS S)(P:Nat→List Nat→Bool):TS S:= { t with sl:=QZ P t.sl,hp:=XF P t.hp }
def isO (o:Nat):Nat→List Nat→Bool:=fun q _=>Nat.beq q o
def TS.forget (t:TS S)(o:Nat):TS S:=t.clear (isO o)
def yc (ρ:Rho)(P:Nat→List Nat→Bool):Rho:=fun q p=>match P q p with
 | true=>none
 | false=>ρ q p
def del (ρ:Rho)(o:Nat):Rho:=yc ρ (isO o)
theorem zO {P:Nat→List Nat→Bool}{q:Nat}{p:List Nat}{x:Option Nat}(h:yc ρ P q p=some x):P q p=false∧ρ q p=some x:=by
 simp only [yc] at h;split at h
 ·cases h
 ·exact ⟨by assumption,h⟩
theorem y5 {P:Nat→List Nat→Bool}{q:Nat}{p:List Nat}(h:P q p=false):yc ρ P q p=ρ q p:=by simp only [yc,h]
theorem zjX {o q:Nat}(h:q≠o)(p:List Nat):isO o q p=false:=by
 simp only [isO]
 cases z:Nat.beq q o
 ·rfl
 ·exact absurd (Nat.eq_of_beq_eq_true z) h
theorem qA {o q:Nat}{p:List Nat}{x:Option Nat}(h:del ρ o q p=some x):q≠o∧ρ q p=some x:=by
 obtain ⟨h1,h2⟩:=zO h
 refine ⟨fun e=> ?_,h2⟩
 subst e;simp [isO] at h1
theorem QX {o q:Nat}(h:q≠o)(p:List Nat):del ρ o q p=ρ q p:=y5 (zjX h p)
omit Sg in
theorem jM {P:Nat→List Nat→Bool}: ∀ {E:List (Nat×Val S)} {i:Nat} {v:Val S},look (QZ P E) i=some v→ ∃w,look E i=some w∧v=Ut P w
 | [],_,_,h=>nomatch h
 | (k,w)::E,i,v,h=>by
  simp only [QZ,look] at h ⊢
  split at h
  ·cases h;exact ⟨w,rfl,rfl⟩
  ·exact jM h
omit Sg in
theorem qV {P:Nat→List Nat→Bool}: ∀ {E:List (Nat×Obj S)} {i:Nat} {v:Obj S},look (XF P E) i=some v→P i []=false∧ ∃w,look E i=some w∧v=Uu P w
 | [],_,_,h=>nomatch h
 | (k,w)::E,i,v,h=>by
  simp only [XF] at h;split at h
  ·rename_i q;obtain ⟨h1,u,h2,h3⟩:=qV h
   refine ⟨h1,u,?_,h3⟩
   have:Nat.beq k i=false:=by
    cases z:Nat.beq k i
    ·rfl
    ·rw [Nat.eq_of_beq_eq_true z,h1] at q
     cases q
   simp only [look,this,h2]
  ·rename_i q;simp only [look] at h ⊢
   split at h
   ·rename_i z
    cases h;rw [Nat.eq_of_beq_eq_true z] at q;exact ⟨q,w,rfl,rfl⟩
   ·exact qV h
variable {P:Nat→List Nat→Bool}
theorem VR1.cut {v:Val S}{d:D}(hm:Vp P v=false)(h:VR1 ρ H v d):VR1 (yc ρ P) H v d:=by
 cases v with
 | whole q p=>simp only [VR1,y5 (show P q p=false from hm)];exact h
 | win q p off len=>simp only [VR1,y5 (show P q p=false from hm)];exact h
 | ptr q p i j=>simp only [VR1,y5 (show P q p=false from hm)];exact h
 | pa q j z len=>simp only [VR1,y5 (show P q []=false from hm)];exact h
 | _=>exact h
theorem VC.cut {v:Val S}{ds:List D}(hm:Vp P v=false)(h:VC ρ H v ds):VC (yc ρ P) H v ds:=by
 cases v with
 | one n c v=>exact h
 | _=>exact let ⟨d,e,h⟩:=h; ⟨d,e,h.cut hm⟩
theorem VCs.cut: ∀ {vs:List (Val S)} {ds:List D},zcq P vs=false→VCs ρ H vs ds→VCs (yc ρ P) H vs ds
 | [],_,_,h=>h
 | _::_,_,hm,⟨a,b,e,h,k⟩=>by
  simp only [zcq,Bool.or_eq_false_iff] at hm;exact ⟨a,b,e,h.cut hm.1,VCs.cut hm.2 k⟩
theorem VSx.cut {v:Val S}{d:D}(hm:zeO P v=false)(h:VSx ρ H v d):VSx (yc ρ P) H v d:=by
 cases v with
 | one n c v=>exact h
 | agg vs=>exact let ⟨ds,e,h⟩:=h; ⟨ds,e,h.cut hm⟩
 | _=>simp only [VSx] at h ⊢;exact h.cut hm
theorem VS.cut {v:Val S}{d:D}(hm:ziI P v=false)(h:VS ρ H v d):VS (yc ρ P) H v d:=by
 cases v with
 | tup vs=>
  obtain ⟨ds,e,h⟩:=h
  refine ⟨ds,e,?_⟩
  simp only [ziI] at hm;clear e
  induction vs generalizing ds with
  | nil=>cases ds<;>exact h
  | cons v vs ih=>
   simp only [zeN,Bool.or_eq_false_iff] at hm
   cases ds with
   | nil=>exact h
   | cons d ds=>exact ⟨h.1.cut hm.1,ih hm.2 ds h.2⟩
 | _=>simp only [VS] at h ⊢;exact h.cut hm
theorem VC.clear {v:Val S}{ds:List D}(h:VC ρ H v ds):VC (yc ρ P) H (QY P v) ds∧YG (QY P v)=YG v:=by
 simp only [QY];split
 ·rename_i hm
  cases v with
  | one n c v=>cases hm
  | _=>exact let ⟨d,e,h⟩:=h; ⟨⟨d,e,trivial⟩,rfl⟩
 ·rename_i hm;exact ⟨h.cut hm,rfl⟩
theorem VCs.clear: ∀ {vs:List (Val S)} {ds:List D},VCs ρ H vs ds→VCs (yc ρ P) H (vs.map (QY P)) ds∧yr (vs.map (QY P))=yr vs
 | [],_,h=>⟨h,rfl⟩
 | _::_,_,⟨a,b,e,h,k⟩=>⟨⟨a,b,e,h.clear.1,(VCs.clear k).1⟩,by simp only [List.map,yr,h.clear.2,(VCs.clear k).2]⟩
theorem VS.clear {v:Val S}{d:D}(h:VS ρ H v d):VS (yc ρ P) H (Ut P v) d:=by
 simp only [Ut];split
 ·trivial
 ·exact h.cut (by assumption)
theorem zc.clear (h:zc fr b N ρ t s)(hP: ∀o p,P o []=false→P o p=false):zc fr b N (yc ρ P) (t.clear P) s where
 len:=h.len
 sl:=fun i v hv=>by
  obtain ⟨w,h1,rfl⟩:=jM hv
  exact (h.sl _ _ h1).clear
 hp:=fun q ob hq=>by
  obtain ⟨h1,w,h2,rfl⟩:=qV hq
  have h3:=h.hp _ _ h2
  cases w with
  | row n e l=>exact zw.ext (HLe.refl _) (fun p x hx=>by rw [y5 (hP q p h1)];exact hx) (fun p id _=>rfl) h3
  | box pn vs=>
   obtain ⟨id,ds,k1,k2,k3,k9⟩:=h3
   exact ⟨id,ds,by rw [y5 h1];exact k1,by rw [k3.clear.2];exact k2,k3.clear.1,k9⟩
 inj:=fun _ _ _ _ _ h1 h2=>h.inj _ _ _ _ _ (zO h1).2 (zO h2).2
 liv:=fun _ _ _ h1=>h.liv _ _ _ (zO h1).2
 nxt:=fun q p hq=>by
  have:=h.nxt q p hq
  simp only [yc];split
  ·rfl
  ·exact this
 frm:=h.frm
 avl:=h.avl
theorem zc.forget (h:zc fr b N ρ t s)(o:Nat):zc fr b N (del ρ o) (t.forget o) s:=h.clear (fun q p hq=>hq)
end
section
variable {S:Nat→Type} [Sg:Sig S] {ρ ρ':Rho} {H H':zf}
theorem zg.split {α β:Type}{R:α→β→Prop}: ∀ {a b:List α} {ds:List β},zg R (a++b) ds→ ∃d e,ds=d++e∧zg R a d∧zg R b e
 | [],b,ds,h=>⟨[],ds,rfl,trivial,h⟩
 | x::a,b,[],h=>h.elim
 | x::a,b,y::ds,h=>let ⟨d,e,k,h1,h2⟩:=zg.split (a:=a) h.2; ⟨y::d,e,by rw [k];rfl,⟨h.1,h1⟩,h2⟩
def zes (n:Nat):(cs:List Code)→Flds S cs→List (Val S)
 | [],_=> []
 | c::cs,p=> .one n c p.1::zes n cs p.2
theorem J9 {n:Nat}: ∀ {cs:List Code} {p:Flds S cs} {ds:List D},zg (Cl H n) (zbn Sg.wd Sg.Dd cs p) ds→VCs ρ H (zes n cs p) ds
 | [],_,[],_=>rfl
 | [],_,_::_,h=>h.elim
 | c::cs,p,ds,h=>by
  obtain ⟨d,e,rfl,h1,h2⟩:=zg.split h
  exact ⟨d,e,rfl,h1,J9 h2⟩
def ziP:Val S→Option (List (Val S))
 | .one n (.st i) v=>some (zes n (Sg.fields i) (Sg.split i v))
 | _=>none
theorem zhz {v:Val S}{us:List (Val S)}{ds:List D}(h:ziP v=some us)(k:VC ρ H v ds):VCs ρ H us ds:=by
 unfold ziP at h;split at h
 ·rename_i n i v
  cases h;exact J9 (Sg.hD i v▸k)
 ·cases h
theorem VC.len {v:Val S}{ds:List D}(h:VC ρ H v ds):ds.length=YG v:=by
 cases v with
 | one n c v=>rw [←zg.len h,yT];rfl
 | _=>obtain ⟨d,rfl,_⟩:=h;rfl
theorem VCs.len: ∀ {vs:List (Val S)} {ds:List D},VCs ρ H vs ds→ds.length=yr vs
 | [],_,h=>by rw [h];rfl
 | v::vs,ds,⟨a,b,e,h,k⟩=>by rw [e,List.length_append,h.len,VCs.len k];rfl
theorem VCs.app: ∀ {vs ws:List (Val S)} {ds es:List D},VCs ρ H vs ds→VCs ρ H ws es→VCs ρ H (vs++ws) (ds++es)
 | [],_,_,_,h,k=>by rw [h];exact k
 | v::vs,_,_,_,⟨a,b,e,h,k⟩,h2=>⟨a,b++_,by rw [e,List.append_assoc],h,VCs.app k h2⟩
def Xk:Nat→Nat→List (Val S)→Option (List (Val S)×List (Val S))
 | 0,_,_=>none
 | f+1,j,vs=>match Nat.beq j 0 with
  | true=>some ([],vs)
  | false=>match vs with
   | []=>none
   | v::vs=>match Nat.ble (YG v) j with
    | true=>match Xk f (j-YG v) vs with
     | some p=>some (v::p.1,p.2)
     | none=>none
    | false=>match ziP v with
     | some us=>Xk f j (us++vs)
     | none=>none
theorem jf: ∀ {f j:Nat} {vs a b:List (Val S)} {ds:List D},Xk f j vs=some (a,b)→VCs ρ H vs ds→ ∃d e,ds=d++e∧d.length=j∧VCs ρ H a d∧VCs ρ H b e
 | 0,_,_,_,_,_,h,_=>nomatch h
 | f+1,j,vs,a,b,ds,h,k=>by
  simp only [Xk] at h;split at h
  ·rename_i hj
   cases h;exact ⟨[],ds,rfl,(Nat.eq_of_beq_eq_true hj).symm,rfl,k⟩
  ·rename_i hj;split at h
   ·cases h
   ·rename_i v vs;obtain ⟨d1,d2,rfl,k1,k2⟩:=k
    split at h
    ·rename_i hw;split at h
     ·rename_i p hp
      cases h;obtain ⟨d3,e,rfl,h1,h2,h3⟩:=jf (a:=p.1) (b:=p.2) hp k2
      refine ⟨d1++d3,e,by simp,?_,⟨d1,d3,rfl,k1,h2⟩,h3⟩
      have:=Nat.le_of_ble_eq_true hw
      rw [List.length_append,k1.len,h1];omega
     ·cases h
    ·split at h
     ·rename_i us hu;exact jf h ((zhz hu k1).app k2)
     ·cases h
def Xr:Nat:=600
def part (vs:List (Val S))(j n:Nat):Option (List (Val S)):=match Xk Xr j vs with
 | some p=>match Xk Xr n p.2 with
  | some q=>some q.1
  | none=>none
 | none=>none
theorem Z3 {vs ms:List (Val S)}{j n:Nat}{ds:List D}(h:part vs j n=some ms)(k:VCs ρ H vs ds):VCs ρ H ms ((ds.drop j).take n)∧j+n≤ds.length:=by
 simp only [part] at h;split at h
 ·rename_i p hp;split at h
  ·rename_i q hq
   cases h;obtain ⟨d,e,rfl,h1,h2,h3⟩:=jf (a:=p.1) (b:=p.2) hp k
   obtain ⟨d',e',rfl,h4,h5,h6⟩:=jf (a:=q.1) (b:=q.2) hq h3
   subst h1 h4
   simp only [List.drop_left,List.take_left,List.length_append];exact ⟨h5,by omega⟩
  ·cases h
 ·cases h
def zdj (vs:List (Val S))(j n:Nat)(ws:List (Val S)):Option (List (Val S)):=match Xk Xr j vs with
 | some p=>match Xk Xr n p.2 with
  | some q=>some (p.1++(ws++q.2))
  | none=>none
 | none=>none
theorem Zl {vs ms ws:List (Val S)}{j n:Nat}{ds es:List D}(h:zdj vs j n ws=some ms)(k:VCs ρ H vs ds)(hw:VCs ρ H ws es)(he:es.length=n) :
  VCs ρ H ms (qF ds j es)∧j+n≤ds.length∧yr ms=yr vs:=by
 simp only [zdj] at h;split at h
 ·rename_i p hp;split at h
  ·rename_i q hq
   cases h;obtain ⟨d,e,rfl,h1,h2,h3⟩:=jf (a:=p.1) (b:=p.2) hp k
   obtain ⟨d',e',rfl,h4,h5,h6⟩:=jf (a:=q.1) (b:=q.2) hq h3
   subst h1;have e1:qF (d++(d'++e')) d.length es=d++(es++e'):=by
    simp only [qF,List.take_left,he,List.append_assoc,←h4];rw [←List.length_append,←List.append_assoc d d' e',List.drop_left]
   have k1:=h2.app (hw.app h6)
   rw [e1];refine ⟨k1,by simp [←h4],?_⟩
   rw [←k1.len,←k.len];simp [he,h4]
  ·cases h
 ·cases h
def YQ (ag:Bool)(ms:List (Val S)):Option (Val S):=match ag with
 | true=>(match ms with
  | [.one n c v]=>(match isAgg c with
   | true=>some (.one n c v)
   | false=>some (.agg [.one n c v]))
  | ms=>some (.agg ms))
 | false=>(match ms with
  | [.one n c v]=>(match isAgg c with
   | true=>none
   | false=>some (.one n c v))
  | [.agg _]=>none
  | [.tup _]=>none
  | [v]=>some v
  | _=>none)
theorem VR1.toVS {v:Val S}{d:D}(h:VR1 ρ H v d):VS ρ H v d:=by
 cases v with
 | one _ _ _=>exact h.elim
 | agg _=>exact h.elim
 | tup _=>exact h.elim
 | _=>exact h
theorem Yq {ag:Bool}{ms:List (Val S)}{v:Val S}{ds:List D}(h:YQ ag ms=some v)(k:VCs ρ H ms ds): ∃d,shaped ag ds=some d∧VS ρ H v d:=by
 cases ag with
 | true=>
  refine ⟨.agg ds,rfl,?_⟩
  simp only [YQ] at h;split at h
  ·rename_i n c v;obtain ⟨a,b,rfl,h1,h2⟩:=k
   have h2:b= []:=h2
   subst h2;split at h
   ·rename_i hc
    cases h;simp only [VS,VSx,hc];exact ⟨a,by simp,h1⟩
   ·cases h;exact ⟨a ++ [],rfl,a,[],rfl,h1,rfl⟩
  ·cases h;exact ⟨ds,rfl,k⟩
 | false=>
  simp only [YQ] at h;split at h
  ·rename_i n c v;obtain ⟨a,b,rfl,h1,h2⟩:=k
   have h2:b= []:=h2
   subst h2;split at h
   ·cases h
   ·rename_i hc
    cases h;have hl:a.length=1:=by
     have:=VC.len h1
     rw [this]
     cases c<;>first | rfl | cases hc
    match a,hl with
    | [d],_=>
     refine ⟨d,rfl,?_⟩
     simp only [VS,VSx,hc];exact h1
  ·cases h
  ·cases h
  ·rename_i w hn1 hn2 hn3
   cases h;obtain ⟨a,b,rfl,h1,h2⟩:=k
   have h2:b= []:=h2
   subst h2;have: ∃d,a= [d]∧VR1 ρ H v d:=by
    cases v with
    | one n c v=>exact absurd rfl (hn1 n c v)
    | _=>exact h1
   obtain ⟨d,rfl,h3⟩:=this
   exact ⟨d,rfl,h3.toVS⟩
  ·cases h
def Uh:Val S→Bool
 | .undef=>false
 | .skip=>false
 | _=>true
def zbQ:Val S→Option (List (Val S))
 | .agg vs=>match vs.all Uh with
  | true=>some vs
  | false=>none
 | .tup _=>none
 | .undef=>none
 | .skip=>none
 | v=>some [v]
theorem Uv {H:zf}{n:Nat}{v d:D}(hv:yw v=true)(h:Cl H n v d):one d=true:=by
 cases n with
 | zero=>exact h.elim
 | succ n=>
  rcases h with h | ⟨sz,es,id,off,len,es0,rfl,rfl,_⟩ | ⟨cs,id,i,j,sz,es0,e,rfl,_⟩ | ⟨cs,ds,rfl,_⟩
  ·have h:=h.2
   cases v with
   | int k n=>rw [show d=_ from h];rfl
   | bool b=>rw [show d=_ from h];rfl
   | flt b=>rw [show d=_ from h];rfl
   | str b=>rw [show d=_ from h];rfl
   | lst sz es=>rcases h with ⟨_,rfl⟩ | ⟨es',rfl,_⟩<;>rfl
   | _=>cases hv
  ·rfl
  ·cases hv
  ·cases hv
theorem Xf {H:zf}{n:Nat}: ∀ {cs ds:List D},(∀d∈cs,yw d=true)→zg (Cl H n) cs ds→ds.all one=true
 | [],[],_,_=>rfl
 | c::cs,d::ds,h,k=>by
  simp only [List.all_cons,Bool.and_eq_true];exact ⟨Uv (h c (by simp)) k.1,Xf (fun x hx=>h x (by simp [hx])) k.2⟩
 | [],_::_,_,h=>h.elim
 | _::_,[],_,h=>h.elim
theorem Un {n:Nat}{cs:List D}{d:D}(h:Cl H n (.fptr cs) d):one d=true:=by
 cases n with
 | zero=>exact h.elim
 | succ n=>
  rcases h with h | ⟨sz,es,id,off,len,es0,h1,_⟩ | ⟨cs,id,i,j,sz,es0,e,_,rfl,_⟩ | ⟨cs,ds,h1,_⟩
  ·obtain ⟨ds,rfl,_⟩:=Nr.fptr h.2
   rfl
  ·cases h1
  ·rfl
  ·cases h1
theorem VC.one {v:Val S}{ds:List D}(hv:Uh v=true)(h:VC ρ H v ds):ds.all Pi.one=true:=by
 cases v with
 | one n c v=>exact Xf (qL c v) h
 | undef=>cases hv
 | skip=>cases hv
 | nil=>obtain ⟨d,rfl,k⟩:=h;rw [show d=_ from k];rfl
 | nilp=>obtain ⟨d,rfl,k⟩:=h;rw [show d=_ from k];rfl
 | fn n=>obtain ⟨d,rfl,k⟩:=h;rw [show d=_ from k];rfl
 | agg _=>obtain ⟨d,rfl,k⟩:=h;exact k.elim
 | tup _=>obtain ⟨d,rfl,k⟩:=h;exact k.elim
 | whole o p=>obtain ⟨d,rfl,k⟩:=h;rcases k with ⟨_,_,_,_,_,rfl⟩ | ⟨_,rfl⟩<;>rfl
 | win o p off len=>obtain ⟨d,rfl,k⟩:=h;rcases k with ⟨_,_,_,_,_,_,rfl⟩ | ⟨_,_,_,rfl⟩<;>rfl
 | ptr o p i j=>obtain ⟨d,rfl,_,_,_,_,_,_,rfl⟩:=h;rfl
 | pa o j z len=>obtain ⟨d,rfl,_,_,_,_,_,_,_,rfl⟩:=h;rfl
 | fp n c v j=>
  obtain ⟨d,rfl,r,k⟩:=h
  simp only [List.all_cons,List.all_nil,Bool.and_true];exact Un k
theorem VCs.one: ∀ {vs:List (Val S)} {ds:List D},vs.all Uh=true→VCs ρ H vs ds→ds.all Pi.one=true
 | [],_,_,h=>by rw [h];rfl
 | v::vs,_,hv,⟨a,b,e,h,k⟩=>by
  simp only [List.all_cons,Bool.and_eq_true] at hv;rw [e,List.all_append,h.one hv.1,VCs.one hv.2 k];rfl
theorem YY {d:D}(h: ∀cs,d ≠ .agg cs):cellsOf d= [d]:=by
 cases d<;>first | rfl | exact absurd rfl (h _)
theorem zd7 {v:Val S}{vs:List (Val S)}{d:D}(h:zbQ v=some vs)(k:VS ρ H v d):VCs ρ H vs (cellsOf d)∧(cellsOf d).all one=true:=by
 have single: ∀ {w:Val S},Uh w=true→(∀n c x,w ≠ .one n c x)→VR1 ρ H w d→VCs ρ H [w] (cellsOf d)∧(cellsOf d).all Pi.one=true:=by
  intro w hw hn hr;have h1:VC ρ H w [d]:=by
   cases w with
   | one n c x=>exact absurd rfl (hn n c x)
   | _=>exact ⟨d,rfl,hr⟩
  have h2:=h1.one hw
  have h3:cellsOf d= [d]:=YY fun cs e=>by subst e;cases h2
  rw [h3];exact ⟨⟨[d],[],rfl,h1,rfl⟩,h2⟩
 cases v with
 | undef=>cases h
 | skip=>cases h
 | tup _=>cases h
 | agg ws=>
  simp only [zbQ] at h;split at h
  ·rename_i ho
   cases h;obtain ⟨ds,rfl,k⟩:=k
   exact ⟨k,k.one ho⟩
  ·cases h
 | one n c x=>
  cases h;simp only [VS,VSx] at k;split at k
  ·obtain ⟨ds,rfl,k⟩:=k
   exact ⟨⟨ds,[],by simp [cellsOf],k,rfl⟩,Xf (qL c x) k⟩
  ·have h2:=Xf (qL c x) k
   have h3:cellsOf d= [d]:=YY fun cs e=>by subst e;cases h2
   rw [h3];exact ⟨⟨[d],[],rfl,k,rfl⟩,h2⟩
 | _=>cases h;exact single rfl (fun _ _ _ e=>nomatch e) k
abbrev XG (S:Nat→Type):=Val S→(c:Code)→Option (T S c)
def ints (k:IntKind):List (Val S)→Option (List Int)
 | []=>some []
 | .one _ (.int k') z::vs=>match decide (k=k'),ints k vs with
  | true,some l=>some (z::l)
  | _,_=>none
 | _=>none
def mkF (m:(c:Code)→List (Val S)→Option (T S c)):(cs:List Code)→List (Val S)→Option (Flds S cs)
 | [],[]=>some ()
 | [],_::_=>none
 | c::cs,vs=>match Xk Xr (W (S:=S) c) vs with
  | some p=>match m c p.1,mkF m cs p.2 with
   | some x,some y=>some (x,y)
   | _,_=>none
  | none=>none
def mkC (m:(c:Code)→List (Val S)→Option (T S c)):(c:Code)→List (Val S)→Option (T S c)
 | .st i,vs=>match mkF m (Sg.fields i) vs with
  | some p=>some (Sg.join i p)
  | none=>none
 | .arr n k,vs=>match ints k vs with
  | some l=>if h:l.length=n then some ⟨l,h⟩ else none
  | none=>none
 | _,_=>none
def mkT (g:XG S):Nat→(c:Code)→List (Val S)→Option (T S c)
 | 0,_,_=>none
 | f+1,c,[v]=>match g v c with
  | some x=>some x
  | none=>mkC (mkT g f) c [v]
 | f+1,c,vs=>mkC (mkT g f) c vs
section
variable {R:D→D→Prop}
theorem UN (hR: ∀k z,R (.int k z) (.int k z)){k:IntKind}: ∀ {vs:List (Val S)} {l:List Int} {ds:List D},ints k vs=some l→VCs ρ H vs ds→zg R (l.map fun z=>D.int k z) ds
 | [],_,_,h,hk=>by cases h;rw [hk];trivial
 | .one m (.int k') z::vs,l,ds,h,⟨a,b,e,h1,h2⟩=>by
  simp only [ints] at h;split at h
  ·rename_i l' hd hi
   cases h;have:=of_decide_eq_true hd
   subst this;match a,h1 with
   | [d],h1=>
    obtain rfl:d= .int k z:=h1.1.sc rfl
    subst e;exact ⟨hR k z,UN hR hi h2⟩
  ·cases h
 | .undef::_,_,_,h,_ | .skip::_,_,_,h,_ | .nil::_,_,_,h,_ | .nilp::_,_,_,h,_ | .fn _::_,_,_,h,_ | .agg _::_,_,_,h,_ | .tup _::_,_,_,h,_ | .whole _ _::_,_,_,h,_ | .win _ _ _ _::_,_,_,h,_ | .ptr _ _ _ _::_,_,_,h,_ | .fp _ _ _ _::_,_,_,h,_ | .pa _ _ _ _::_,_,_,h,_=>nomatch h
 | .one _ .bool _::_,_,_,h,_ | .one _ .flt _::_,_,_,h,_ | .one _ .str _::_,_,_,h,_ | .one _ (.list _) _::_,_,_,h,_ | .one _ (.own _) _::_,_,_,h,_ | .one _ (.arr _ _) _::_,_,_,h,_ | .one _ (.st _) _::_,_,_,h,_=>nomatch h
theorem ze8 {m:(c:Code)→List (Val S)→Option (T S c)}(hm: ∀c vs x ds,m c vs=some x→VCs ρ H vs ds→zg R (en c x) ds) :
  ∀ {cs:List Code} {vs:List (Val S)} {p:Flds S cs} {ds:List D},mkF m cs vs=some p→VCs ρ H vs ds→zg R (zbn Sg.wd Sg.Dd cs p) ds
 | [],[],_,_,_,k=>by rw [show _=_ from k];trivial
 | [],_::_,_,_,h,_=>nomatch h
 | c::cs,vs,p,ds,h,k=>by
  simp only [mkF] at h;split at h
  ·rename_i q hq;split at h
   ·rename_i x y hx hy
    cases h;obtain ⟨d,e,rfl,h1,h2,h3⟩:=jf (a:=q.1) (b:=q.2) hq k
    exact zg.append (hm _ _ _ _ hx h2) (ze8 hm hy h3)
   ·cases h
  ·cases h
theorem zbJ (hR: ∀k z,R (.int k z) (.int k z)){m:(c:Code)→List (Val S)→Option (T S c)}(hm: ∀c vs x ds,m c vs=some x→VCs ρ H vs ds→zg R (en c x) ds){c:Code}{vs:List (Val S)}{x:T S c}{ds:List D}
  (h:mkC m c vs=some x) (k:VCs ρ H vs ds):zg R (en c x) ds:=by
 cases c with
 | st i=>
  simp only [mkC] at h;split at h
  ·rename_i p hp
   cases h;have e:en (S:=S) (.st i) (Sg.join i p)=zbn Sg.wd Sg.Dd _ p:=(Sg.hD i _).trans (congrArg (zbn Sg.wd Sg.Dd _) (Sg.sj i p))
   rw [e];exact ze8 hm hp k
  ·cases h
 | arr n kk=>
  simp only [mkC] at h;split at h
  ·rename_i l hl;split at h
   ·cases h;exact UN hR hl k
   ·cases h
  ·cases h
 | _=>cases h
theorem ZT (hR: ∀k z,R (.int k z) (.int k z)){g:XG S}(hg: ∀v c x ds,g v c=some x→VC ρ H v ds→zg R (en c x) ds) :
  ∀ {f:Nat} {c:Code} {vs:List (Val S)} {x:T S c} {ds:List D},mkT g f c vs=some x→VCs ρ H vs ds→zg R (en c x) ds
 | 0,_,_,_,_,h,_=>nomatch h
 | f+1,c,[],x,ds,h,k=>zbJ hR (fun c vs x ds h k=>ZT hR hg (f:=f) h k) (show mkC (mkT g f) c []=some x from h) k
 | f+1,c,_::_::_,x,ds,h,k=>zbJ hR (fun c vs x ds h k=>ZT hR hg (f:=f) h k) (show mkC (mkT g f) c _=some x from h) k
 | f+1,c,[v],x,ds,h,k=>by
  simp only [mkT] at h;split at h
  ·rename_i y hy
   cases h;obtain ⟨a,b,e,h1,h2⟩:=k
   have h2:b= []:=h2
   subst h2;rw [e,List.append_nil];exact hg _ _ _ _ hy h1
  ·exact zbJ hR (fun c vs x ds h k=>ZT hR hg (f:=f) h k) h k
end
def gC (N:Nat):XG S
 | .one n c' v,c=>match Nat.ble n N with
  | true=>conv c' c v
  | false=>none
 | .nil,.list _=>some []
 | .nil,.own _=>some []
 | _,_=>none
theorem zeR {N:Nat}(hN:0<N){v:Val S}{c:Code}{x:T S c}{ds:List D}(h:gC N v c=some x)(k:VC ρ H v ds):zg (Cl H N) (en c x) ds:=by
 unfold gC at h;split at h
 ·split at h
  ·rename_i hn;rw [(jJ h).1];exact zg.mono k fun _ _ _ q=>q.up (Nat.le_of_ble_eq_true hn)
  ·cases h
 ·cases h;obtain ⟨d,rfl,e⟩:=k
  obtain rfl:d= .nil:=e
  cases N with
  | zero=>omega
  | succ N=>exact ⟨Cl.plain rfl Nr.mk_nil,trivial⟩
 ·cases h;obtain ⟨d,rfl,e⟩:=k
  obtain rfl:d= .nil:=e
  cases N with
  | zero=>omega
  | succ N=>exact ⟨Cl.plain rfl Nr.mk_nil,trivial⟩
 ·cases h
def Vq:Nat:=9
def mk (N:Nat)(c:Code)(vs:List (Val S)):Option (T S c):=mkT (gC N) Vq c vs
theorem Jq {N:Nat}(hN:0<N){c:Code}{vs:List (Val S)}{x:T S c}{ds:List D}(h:mk N c vs=some x)(k:VCs ρ H vs ds):zg (Cl H N) (en c x) ds:=
 ZT (fun k z=>by cases N with | zero=>omega | succ N=>exact Cl.plain rfl rfl) (fun v c x ds h k=>zeR hN h k) h k
end
theorem XV {k:IntKind}{xs ys:List D}: ∀ {l m:List Int},l.length=m.length→jo ((l.map fun z=>D.int k z)++xs) ((m.map fun z=>D.int k z)++ys)=if l==m then jo xs ys else some false
 | [],[],_=>rfl
 | a::l,b::m,h=>by
  simp only [List.map_cons,List.cons_append,jo,eqC,if_true,Option.bind_some,List.cons_beq_cons];rw [XV (by simpa using h)];by_cases h1:(a==b)=true
  ·simp only [h1,if_true,Bool.true_and]
  ·simp only [Bool.eq_false_iff.mpr h1,Bool.false_and,if_false,Bool.false_eq_true]
 | [],_::_,h | _::_,[],h=>by cases h
section
variable {S:Nat→Type} [Sg:Sig S] {ρ ρ':Rho} {H H':zf}
def ofD:D→Option (Val S)
 | .int k n=>some (.one 1 (.int k) n)
 | .bool b=>some (.one 1 .bool b)
 | .flt f=>some (.one 1 .flt f)
 | .str s=>some (.one 1 .str s)
 | .nil=>some .nil
 | .nilp=>some .nilp
 | .skip=>some .skip
 | .fn n=>some (.fn n)
 | .undef=>some .undef
 | _=>none
def VZ:List D→Option (List (Val S))
 | []=>some []
 | d::ds=>match ofD d,VZ ds with
  | some v,some vs=>some (v::vs)
  | _,_=>none
def ofK:D→Option (Val S)
 | .agg cs=>match VZ cs with
  | some vs=>some (.agg vs)
  | none=>none
 | d=>ofD d
theorem Zj {d:D}{v:Val S}(h:ofD d=some v):VS ρ H v d∧VC ρ H v [d]∧VSx ρ H v d:=by
 have base: ∀ {x:D},plain x=true→zg (Cl H 1) [x] [x]:=fun hx=>⟨Cl.plain hx (Nr.rfl' _),trivial⟩
 cases d with
 | int k n=>cases h;exact ⟨base rfl,base rfl,base rfl⟩
 | bool b=>cases h;exact ⟨base rfl,base rfl,base rfl⟩
 | flt f=>cases h;exact ⟨base rfl,base rfl,base rfl⟩
 | str s=>cases h;exact ⟨base rfl,base rfl,base rfl⟩
 | nil=>cases h;exact ⟨rfl,⟨_,rfl,rfl⟩,rfl⟩
 | nilp=>cases h;exact ⟨rfl,⟨_,rfl,rfl⟩,rfl⟩
 | skip=>cases h;exact ⟨rfl,⟨_,rfl,rfl⟩,rfl⟩
 | fn n=>cases h;exact ⟨rfl,⟨_,rfl,rfl⟩,rfl⟩
 | undef=>cases h;exact ⟨trivial,⟨_,rfl,trivial⟩,trivial⟩
 | _=>cases h
theorem Yk: ∀ {ds:List D} {vs:List (Val S)},VZ ds=some vs→VCs ρ H vs ds
 | [],vs,h=>by cases h;rfl
 | d::ds,vs,h=>by
  simp only [VZ] at h;split at h
  ·rename_i v vs h1 h2
   cases h;exact ⟨[d],ds,rfl,(Zj h1).2.1,Yk h2⟩
  ·cases h
theorem zjC {d:D}{v:Val S}(h:ofK d=some v):VS ρ H v d:=by
 unfold ofK at h;split at h
 ·split at h
  ·cases h;exact ⟨_,rfl,Yk (by assumption)⟩
  ·cases h
 ·exact (Zj h).1
def evK (t:TS S):PX→Option (Val S)
 | .t i=>look t.sl i
 | .c d=>ofK d
variable {fr:Fr} {b N:Nat} {t:TS S} {s:St}
theorem zc.ev (h:zc fr b N ρ t s){x:PX}{v:Val S}(hx:evK t x=some v):VS ρ s.hp v (x.ev s.ts):=by
 cases x with
 | t i=>exact h.sl i v hx
 | c d=>exact zjC hx
def scD:Val S→Option D
 | .one _ (.int k) z=>some (.int k z)
 | .one _ .bool z=>some (.bool z)
 | .one _ .flt z=>some (.flt z)
 | .one _ .str z=>some (.str z)
 | _=>none
theorem zjo {v:Val S}{d d':D}(h:scD v=some d')(k:VS ρ H v d):d=d':=by
 unfold scD at h;split at h<;>first | (cases h;exact (show Cl H _ _ d from k.1).sc rfl) | cases h
def scE (t:TS S)(x:PX):Option D:=match evK t x with
 | some v=>scD v
 | none=>none
theorem zc.sc (h:zc fr b N ρ t s){x:PX}{d:D}(hx:scE t x=some d):x.ev s.ts=d:=by
 unfold scE at hx;split at hx
 ·exact zjo hx (h.ev (by assumption))
 ·cases hx
def Vh:Nat→List (Val S)→List (Val S)→Option (Bool×List Nat)
 | 0,_,_=>none
 | _+1,[],[]=>some (true,[])
 | f+1,.one _ (.int k) a::vs,.one _ (.int k') c::ws=>match decide (k=k'),Vh f vs ws with
  | true,some r=>some ((a==c)&&r.1,1::r.2)
  | _,_=>none
 | f+1,.one _ .bool a::vs,.one _ .bool c::ws=>match Vh f vs ws with
  | some r=>some ((a==c)&&r.1,0::r.2)
  | _=>none
 | f+1,.one _ .str a::vs,.one _ .str c::ws=>match Vh f vs ws with
  | some r=>some ((a==c)&&r.1,2::r.2)
  | _=>none
 | f+1,.one _ (.arr n k) a::vs,.one _ (.arr n' k') c::ws=>match Nat.beq n n'&&decide (k=k'),Vh f vs ws with
  | true,some r=>some ((a.1==c.1)&&r.1,List.replicate n 1++r.2)
  | _,_=>none
 | f+1,.one n (.st i) a::vs,ws=>Vh f (zes n (Sg.fields i) (Sg.split i a)++vs) ws
 | f+1,vs,.one n (.st i) a::ws=>Vh f vs (zes n (Sg.fields i) (Sg.split i a)++ws)
 | f+1,.one m (.arr n k) a::vs,ws=>match Xk Xr n ws with
  | some p=>match ints k p.1 with
   | some l=>match Nat.beq l.length n,Vh f vs p.2 with
    | true,some r=>some ((a.1==l)&&r.1,List.replicate n 1++r.2)
    | _,_=>none
   | none=>none
  | none=>none
 | _,_,_=>none
theorem ze4 {k:IntKind}{n:Nat}{z:Int}{d:List D}(h:VC (S:=S) ρ H (.one n (.int k) z) d):d= [.int k z]:=by
 match d,h with
 | [d],h=>rw [show d=_ from h.1.sc rfl]
theorem zaE {n:Nat}{z:Bool}{d:List D}(h:VC (S:=S) ρ H (.one n .bool z) d):d= [.bool z]:=by
 match d,h with
 | [d],h=>rw [show d=_ from h.1.sc rfl]
theorem zcT {n:Nat}{z:List UInt8}{d:List D}(h:VC (S:=S) ρ H (.one n .str z) d):d= [.str z]:=by
 match d,h with
 | [d],h=>rw [show d=_ from h.1.sc rfl]
theorem Q1 {n:Nat}{k:IntKind}: ∀ {l:List Int} {d:List D},zg (Cl H n) (l.map fun z=>D.int k z) d→d=l.map fun z=>D.int k z
 | [],[],_=>rfl
 | a::l,d::ds,h=>by rw [show d=_ from h.1.sc rfl,Q1 h.2];rfl
 | [],_::_,h | _::_,[],h=>h.elim
theorem jI: ∀ {f:Nat} {vs ws:List (Val S)} {r:Bool×List Nat} {ds es:List D},Vh f vs ws=some r→VCs ρ H vs ds→VCs ρ H ws es→jo ds es=some r.1∧ds.map yq=r.2∧es.map yq=r.2
 | 0,_,_,_,_,_,h,_,_=>nomatch h
 | f+1,vs,ws,r,ds,es,h,k,k'=>by
  unfold Vh at h;split at h
  ·rename_i e;cases e
  ·cases h;rw [show ds= [] from k,show es= [] from k']
   exact ⟨rfl,rfl,rfl⟩
  ·split at h
   ·rename_i hk hr
    cases h;have:=of_decide_eq_true hk
    subst this;obtain ⟨a,a',rfl,h1,h2⟩:=k
    obtain ⟨c,c',rfl,h3,h4⟩:=k'
    obtain ⟨e1,e2,e3⟩:=jI hr h2 h4
    have:=ze4 h1
    have:=ze4 h3
    subst a c
    simp only [List.cons_append,List.nil_append,jo,eqC,if_true,Option.bind_some,List.map_cons,e2,e3,e1,yq];refine ⟨?_,trivial,trivial⟩
    split<;>rename_i q
    ·rw [q];rfl
    ·rw [Bool.eq_false_iff.mpr q];rfl
   ·cases h
  ·split at h
   ·rename_i hr
    cases h;obtain ⟨a,a',rfl,h1,h2⟩:=k
    obtain ⟨c,c',rfl,h3,h4⟩:=k'
    obtain ⟨e1,e2,e3⟩:=jI hr h2 h4
    have:=zaE h1
    have:=zaE h3
    subst a c
    simp only [List.cons_append,List.nil_append,jo,eqC,Option.bind_some,List.map_cons,e2,e3,e1,yq];refine ⟨?_,trivial,trivial⟩
    split<;>rename_i q
    ·rw [q];rfl
    ·rw [Bool.eq_false_iff.mpr q];rfl
   ·cases h
  ·split at h
   ·rename_i hr
    cases h;obtain ⟨a,a',rfl,h1,h2⟩:=k
    obtain ⟨c,c',rfl,h3,h4⟩:=k'
    obtain ⟨e1,e2,e3⟩:=jI hr h2 h4
    have:=zcT h1
    have:=zcT h3
    subst a c
    simp only [List.cons_append,List.nil_append,jo,eqC,Option.bind_some,List.map_cons,e2,e3,e1,yq];refine ⟨?_,trivial,trivial⟩
    split<;>rename_i q
    ·rw [q];rfl
    ·rw [Bool.eq_false_iff.mpr q];rfl
   ·cases h
  ·split at h
   ·rename_i _ nn kk x vs _ n' kk' y ws _ _ _ r hk hr
    cases h;simp only [Bool.and_eq_true,decide_eq_true_eq] at hk;obtain ⟨hk1,rfl⟩:=hk
    obtain rfl:=Nat.eq_of_beq_eq_true hk1
    obtain ⟨a,a',rfl,h1,h2⟩:=k
    obtain ⟨c,c',rfl,h3,h4⟩:=k'
    obtain ⟨e1,e2,e3⟩:=jI hr h2 h4
    have q1:=Q1 h1
    have q2:=Q1 h3
    subst q1 q2
    rw [XV (by rw [x.2,y.2]),e1]
    refine ⟨?_,?_,?_⟩
    ·cases hh:x.1==y.1<;>rfl
    ·rw [List.map_append,List.map_map,e2];congr 1
     rw [show (yq ∘ fun z=>D.int kk z)=fun _=>1 from rfl,List.map_const',x.2]
    ·rw [List.map_append,List.map_map,e3];congr 1
     rw [show (yq ∘ fun z=>D.int kk z)=fun _=>1 from rfl,List.map_const',y.2]
   ·cases h
  ·rename_i n i a vs _;obtain ⟨d,d',rfl,h1,h2⟩:=k
   exact jI h ((J9 (Sg.hD i a▸h1)).app h2) k'
  ·rename_i n i a ws _ _;obtain ⟨d,d',rfl,h1,h2⟩:=k'
   exact jI h k ((J9 (Sg.hD i a▸h1)).app h2)
  ·rename_i m n kk x vs _ _ _;split at h
   ·rename_i p hp;split at h
    ·rename_i l hl;split at h
     ·rename_i r hb hr
      cases h;obtain ⟨a,a',rfl,h1,h2⟩:=k
      obtain ⟨c,c',rfl,h3,h4,h5⟩:=jf (a:=p.1) (b:=p.2) hp k'
      obtain ⟨e1,e2,e3⟩:=jI hr h2 h5
      have q1:=Q1 h1
      have q2:c=l.map fun z=>D.int kk z:=by
       have:=UN (R:=fun x y=>y=x) (fun _ _=>rfl) hl h4
       exact zg.eq_iff.mp this
      have hln:=Nat.eq_of_beq_eq_true hb
      subst q1 q2
      rw [XV (by rw [x.2,hln]),e1]
      refine ⟨?_,?_,?_⟩
      ·cases hh:x.1==l<;>rfl
      ·rw [List.map_append,List.map_map,e2];congr 1
       rw [show (yq ∘ fun z=>D.int kk z)=fun _=>1 from rfl,List.map_const',x.2]
      ·rw [List.map_append,List.map_map,e3];congr 1
       rw [show (yq ∘ fun z=>D.int kk z)=fun _=>1 from rfl,List.map_const',hln]
     ·cases h
    ·cases h
   ·cases h
  ·cases h
end
section
variable {S:Nat→Type} [Sg:Sig S] {ρ ρ':Rho} {H H':zf}
theorem Cl.lst_cases {H:zf}{n sz:Nat}{es:List (List D)}{d:D}(h:Cl H n (.lst sz es) d) :
  (es= []∧d= .nil)∨(∃es',d= .lst sz es'∧zg (zg Nr) es es') ∨
  (∃k id off len es0,n=k+1∧d= .ref id off len∧hat H id= .row sz es0 false∧off+len≤es0.length∧len=es.length∧zg (zg (Cl H k)) es ((es0.drop off).take len)∧0<sz∧ ∀e∈es0,e.length≤sz):=by
 cases n with
 | zero=>exact h.elim
 | succ n=>
  rcases h with ⟨_,k⟩ | ⟨sz',es',id,off,len,es0,h1,h2,h3,h4,h5,h6,h7⟩ | ⟨cs,id,i,j,sz,es0,e,h1,h2,h3⟩ | ⟨cs,ds,h1,h2,h3⟩
  ·rcases k.lst with k | k
   ·exact .inl k
   ·exact .inr (.inl k)
  ·injection h1 with h1 h1';subst h1;subst h1';have:=h5.len
   simp at this;exact .inr (.inr ⟨n,id,off,len,es0,rfl,h2,h3,h4,by omega,h5,h6,h7⟩)
  ·cases h1
  ·cases h1
theorem zbN {i sz j:Nat}(h:j<sz):(i*sz+j) / sz=i∧(i*sz+j) % sz=j:=
 ⟨by rw [Nat.mul_comm,Nat.mul_add_div (by omega),Nat.div_eq_of_lt h];omega,by rw [Nat.mul_comm,Nat.mul_add_mod,Nat.mod_eq_of_lt h]⟩
theorem zb6 {d:D}(h:yw d=true):plain d=true:=by cases d<;>first | rfl | cases h
theorem Xe {n:Nat}: ∀ {cs:List D},(∀d∈cs,yw d=true)→zg (Cl H (n+1)) cs cs
 | [],_=>trivial
 | c::cs,h=>⟨Cl.plain (zb6 (h c (by simp))) (Nr.rfl' c),Xe fun d hd=>h d (by simp [hd])⟩
theorem VSx.toVS {v:Val S}{d:D}(h:VSx ρ H v d):VS ρ H v d:=by
 cases v with
 | tup vs=>exact h.elim
 | _=>exact h
theorem zc9: ∀ {vs:List (Val S)} {ds:List D} {i:Nat} {v:Val S},zg (VSx ρ H) vs ds→vs[i]? = some v→ ∃d,ds[i]? = some d∧VSx ρ H v d
 | v::vs,d::ds,0,w,h,k=>by cases k;exact ⟨d,rfl,h.1⟩
 | v::vs,d::ds,i+1,w,h,k=>zc9 (i:=i) h.2 k
 | [],[],_,_,_,k=>by cases k
 | [],_::_,_,_,h,_ | _::_,[],_,_,h,_=>h.elim
def ziX (op:BinOp)(a b:D):Option D:=match op with
 | .quo=>(match a with | .flt _=>Xl op a b | _=>none)
 | .rem=>none
 | .shl=>none
 | .shr=>none
 | .add=>(match a with | .str _=>none | _=>Xl op a b)
 | op=>Xl op a b
theorem zhJ {op:BinOp}{a b d:D}(h:ziX op a b=some d):Xl op a b=some d:=by
 unfold ziX at h;split at h<;>first | exact h | (split at h<;>first | exact h | cases h) | cases h
def Q0 (t:TS S)(x:PX):Option (List (Val S)):=match evK t x with
 | some v=>zbQ v
 | none=>none
def zdr (t:TS S)(x:PX):Option (List (Val S)):=match evK t x with
 | some (.agg vs)=>some vs
 | some (.one n c v)=>match isAgg c with
  | true=>some [.one n c v]
  | false=>none
 | _=>none
def zct (t:TS S):List (Val S)→List (Nat×Nat×PX)→Option (List (Val S))
 | z,[]=>some z
 | z,(off,n,x)::ps=>match Q0 t x with
  | some ws=>match Nat.beq (yr ws) n,zdj z off n ws with
   | true,some z'=>zct t z' ps
   | _,_=>none
  | none=>none
def yR (b:Bool):Val S:= .one 1 .bool b
def YE (k:IntKind)(n:Int):Val S:= .one 1 (.int k) n
def zkl:Nat:=600
def zh9 (t:TS S)(o j:Nat):Bool:=match look t.hp o with
 | some (.row _ e _)=>Nat.blt j (W (S:=S) e)
 | some (.box pn vs)=>Nat.blt j (yr vs)
 | none=>false
def yK (t:TS S):POp→Option (Val S)
 | .mv x=>evK t x
 | .nilCheck x=>match evK t x with
  | some (.ptr o p i j)=>some (.ptr o p i j)
  | some (.fp n c v j)=>some (.fp n c v j)
  | _=>none
 | .bin op x y=>match scE t x,scE t y with
  | some a,some b=>match ziX op a b with
   | some d=>ofD d
   | none=>none
  | _,_=>none
 | .eqB neg x y=>match scE t x,scE t y with
  | some (.bool a),some (.bool b)=>some (yR (if neg then !(a==b) else a==b))
  | _,_=>none
 | .eqNP neg x=>match evK t x with
  | some .nilp=>some (yR (!neg))
  | some (.ptr _ _ _ _)=>some (yR neg)
  | some (.fp _ _ _ _)=>some (yR neg)
  | _=>none
 | .eqNS neg x=>match evK t x with
  | some .nil=>some (yR (!neg))
  | _=>none
 | .eqA neg ks x y=>match zdr t x,zdr t y with
  | some vs,some ws=>match Vh zkl vs ws with
   | some r=>match decide (r.2=ks) with
    | true=>some (yR (if neg then !r.1 else r.1))
    | false=>none
   | none=>none
  | _,_=>none
 | .un op x=>match scE t x with
  | some a=>match unD op a with
   | some d=>ofD d
   | none=>none
  | none=>none
 | .conv c x=>match c with
  | .toInt k=>(match scE t x with
   | some (.int _ n)=>some (YE k (k.wrap n))
   | _=>none)
  | .toFlt=>(match scE t x with
   | some (.int _ n)=>some (.one 1 .flt (some (FloatKind.f64.nearest n)))
   | _=>none)
  | .same=>evK t x
  | _=>none
 | .fieldAddr off n x=>match evK t x with
  | some (.ptr o p i j)=>(match p,zh9 t o (j+off) with
   | [],true=>some (.ptr o [] i (j+off))
   | _,_=>none)
  | some (.fp n c v j)=>(match Nat.blt (j+off) (W (S:=S) c) with
   | true=>some (.fp n c v (j+off))
   | false=>none)
  | _=>none
 | .field ag off n x=>match zdr t x with
  | some vs=>match part vs off n with
   | some ms=>YQ ag ms
   | none=>none
  | none=>none
 | .extract x i=>match evK t x with
  | some (.tup vs)=>vs[i]?
  | _=>none
 | .len x=>match evK t x with
  | some .nil=>some (YE .i64 0)
  | some (.one _ (.list c) l)=>some (YE .i64 ((List.length (l:List (T S c)):Nat):Int))
  | some (.win _ _ _ len)=>some (YE .i64 ((len:Nat):Int))
  | _=>none
 | .lenS x=>match scE t x with
  | some (.str s)=>some (YE .i64 ((s.length:Nat):Int))
  | _=>none
 | .build zero parts=>match VZ zero with
  | some z=>match zct t z parts with
   | some vs=>some (.agg vs)
   | none=>none
  | none=>none
 | .minmax mx x ys=>match scE t x,ys with
  | some (.int k a),[y]=>(match scE t y with
   | some (.int k' b)=>match decide (k=k') with
    | true=>some (YE k (if mx then (if b>a then b else a) else (if b<a then b else a)))
    | false=>none
   | _=>none)
  | _,_=>none
 | .load ag n x=>match evK t x with
  | some (.fp m c v j)=>match Nat.blt 0 n,part [.one m c v] j n with
   | true,some ms=>YQ ag ms
   | _,_=>none
  | _=>none
 | .ofBits x=>match scE t x with
  | some (.int .u64 n)=>some (.one 1 .flt (some n.toNat))
  | _=>none
 | _=>none
variable {fr:Fr} {b N:Nat} {t:TS S} {s:St}
theorem VS.fp {n j:Nat}{c:Code}{v:T S c}{d:D}(h:VS ρ H (.fp n c v j) d): ∃r,Cl H n (.fptr ((en c v).drop j++r)) d:=h
theorem zc.ptrOk (h:zc fr b N ρ t s){o j id sz:Nat}{es:List (List D)}(hk:Pi.zh9 t o j=true)(h1:ρ o []=some (some id))(h2:hat s.hp id= .row sz es true):j<sz:=by
 unfold Pi.zh9 at hk;split at hk
 ·rename_i n e l ho;have:=h.hp _ _ ho
  have key: ∀ {w:Nat} {E:Nat→T S e→List D→Prop},qe s.hp w (ρ o) l E→w=sz:=by
   intro w E hr;rcases hr with ⟨k,_⟩ | ⟨id',es',k1,k2,_⟩
   ·rw [h1] at k;cases k
   ·rw [h1] at k1;cases k1;rw [h2] at k2;cases k2;rfl
  have hw:W (S:=S) e=sz:=by
   cases e with
   | own e=>exact key this
   | _=>exact key this
  rw [←hw];simpa using hk
 ·rename_i vs ho;obtain ⟨id',ds,k1,k2,_⟩:=h.hp _ _ ho
  rw [h1] at k1;cases k1;rw [h2] at k2;cases k2;simpa using hk
 ·cases hk
theorem qc (b:Bool):VS (S:=S) ρ H (yR b) (.bool b):=(Zj (d:= .bool b) rfl).1
theorem yF (k:IntKind)(n:Int):VS (S:=S) ρ H (YE k n) (.int k n):=(Zj (d:= .int k n) rfl).1
theorem zc.cells (h:zc fr b N ρ t s){x:PX}{vs:List (Val S)}(hx:Q0 t x=some vs):VCs ρ s.hp vs (cellsOf (x.ev s.ts))∧(cellsOf (x.ev s.ts)).all one=true:=by
 unfold Q0 at hx;split at hx
 ·exact zd7 hx (h.ev (by assumption))
 ·cases hx
theorem zc.agg (h:zc fr b N ρ t s){x:PX}{vs:List (Val S)}(hx:zdr t x=some vs): ∃ds,x.ev s.ts= .agg ds∧VCs ρ s.hp vs ds:=by
 unfold zdr at hx;split at hx
 ·rename_i vs' hv
  cases hx;exact h.ev hv
 ·rename_i n c v hv;split at hx
  ·rename_i hc
   cases hx;have k:=h.ev hv
   simp only [VS,VSx,hc] at k;obtain ⟨ds,e,k⟩:=k
   exact ⟨ds,e,ds,[],by simp,k,rfl⟩
  ·cases hx
 ·cases hx
theorem zc.fill (h:zc fr b N ρ t s): ∀ {ps:List (Nat×Nat×PX)} {z vs:List (Val S)} {zd:List D},zct t z ps=some vs→VCs ρ s.hp z zd →
  (ps.all fun p=>(cellsOf (p.2.2.ev s.ts)).all one)=true∧ ∃ds,Xt zd (ps.map fun p=>(p.1,p.2.1,p.2.2.ev s.ts))=some ds∧VCs ρ s.hp vs ds
 | [],z,vs,zd,hf,hz=>by cases hf;exact ⟨rfl,zd,rfl,hz⟩
 | (off,n,x)::ps,z,vs,zd,hf,hz=>by
  simp only [zct] at hf;split at hf
  ·rename_i ws hws;split at hf
   ·rename_i z' hw hz';obtain ⟨k1,k2⟩:=h.cells hws
    have hl:(cellsOf (x.ev s.ts)).length=n:=by rw [k1.len];exact Nat.eq_of_beq_eq_true hw
    obtain ⟨k3,k4,_⟩:=Zl hz' hz k1 hl
    obtain ⟨k5,ds,k6,k7⟩:=h.fill hf k3
    refine ⟨by simp only [List.all_cons,k2,k5,Bool.and_self],ds,?_,k7⟩
    simp only [List.map_cons,Xt,if_pos (And.intro hl k4)];exact k6
   ·cases hf
  ·cases hf
theorem qK {n:Nat}{cs:List D}{d:D}(h:Cl H n (.fptr cs) d):(∃ds,d= .fptr ds∧zg Nr cs ds) ∨ ∃m id i j sz es0 e,n=m+1∧d= .ptr id (i*sz+j)∧hat H id= .row sz es0 false∧es0[i]? = some e∧zg (Cl H m) cs (e.drop j)∧j<sz∧e.length≤sz:=by
 cases n with
 | zero=>exact h.elim
 | succ n=>
  rcases h with h | ⟨sz,es,id,off,len,es0,h1,_⟩ | ⟨cs',id,i,j,sz,es0,e,h1,rfl,h2,h3,h4,h5,h6⟩ | ⟨cs,ds,h1,_⟩
  ·obtain ⟨ds,rfl,k⟩:=Nr.fptr h.2
   exact .inl ⟨ds,rfl,k⟩
  ·cases h1
  ·cases h1;exact .inr ⟨n,id,i,j,sz,es0,e,rfl,rfl,h2,h3,h4,h5,h6⟩
  ·cases h1
theorem zhq {n j k:Nat}{c:Code}{v:T S c}{d:D}{r:List D}{ms:List (Val S)}(h:Cl H n (.fptr ((en c v).drop j++r)) d)(hk:0<k)(hp:part [.one n c v] j k=some ms)(call:zy)(f:PX→D)(q:Nat)(x:PX)(hx:f x=d)(ag:Bool) :
  ∃ds,VCs ρ H ms ds∧(opE call f q (.load ag k x)).run H=((shaped ag ds).map fun d=>⟨d,[],[]⟩):=by
 have key: ∀ {m:Nat} {a a':List D},n=m+1→zg (Cl H (m+1)) ((en c v).drop j) a→k≤(a++a').length∧VCs ρ H ms ((a++a').take k):=by
  intro m a a' hn h1;have h3:zg (Cl H n) (en c v) ((en c v).take j++a):=by
   have q:zg (Cl H (m+1)) ((en c v).take j++(en c v).drop j) ((en c v).take j++a):=
    zg.append (Xe fun d hd=>qL c v d (List.mem_of_mem_take hd)) h1
   rw [List.take_append_drop] at q;rw [hn];exact q
  have h4:=Z3 (ρ:=ρ) (H:=H) hp (show VCs ρ H [.one n c v] _ from ⟨_,[],(List.append_nil _).symm,h3,rfl⟩)
  have hl:=h1.len
  have hl3:=h3.len
  simp only [List.length_append,List.length_take,List.length_drop] at h4 hl hl3;have hj:j≤(en c v).length:=by omega
  have e:List.drop j ((en c v).take j++a)=a:=by
   rw [List.drop_append_of_le_length (by simp;omega)]
   simp [List.drop_take]
  rw [e] at h4;refine ⟨by simp;omega,?_⟩
  rw [List.take_append_of_le_length (by omega)];exact h4.1
 rcases qK h with ⟨ds,rfl,h1⟩ | ⟨m,id,i,jj,sz,es0,e,hn,rfl,h2,h3,h4,h5,h6⟩
 ·cases n with
  | zero=>exact h.elim
  | succ m=>
   obtain ⟨a,a',rfl,h1,_⟩:=zg.split h1
   obtain ⟨k1,k2⟩:=key (m:=m) (a:=a) (a':=a') rfl (h1.mono fun x y ha hb=>by
    have:=qL c v x (List.mem_of_mem_drop ha)
    refine Cl.plain ?_ hb
    cases x with
    | lst sz es=>rcases hb with ⟨_,rfl⟩ | ⟨_,rfl,_⟩<;>rfl
    | int _ _=>rw [show y=_ from hb];rfl
    | bool _=>rw [show y=_ from hb];rfl
    | flt _=>rw [show y=_ from hb];rfl
    | str _=>rw [show y=_ from hb];rfl
    | _=>cases this)
   exact ⟨(a++a').take k,k2,by simp only [opE,hx,k1,if_true];cases shaped ag ((a++a').take k)<;>rfl⟩
 ·obtain ⟨a,a',ea,h7,_⟩:=zg.split h4
  obtain ⟨k1,k2⟩:=key (a:=a) (a':=a') hn (h7.mono fun _ _ _ q=>q.up1)
  rw [←ea] at k1 k2;obtain ⟨d1,d2⟩:=zbN (i:=i) h5
  refine ⟨(e.drop jj).take k,k2,?_⟩
  rw [List.length_drop] at k1;simp only [opE,hx,Eff.run,h2,d1,d2,h3];rw [if_pos (by omega)]
  cases shaped ag ((e.drop jj).take k)<;>rfl
theorem zay (h:zc fr b N ρ t s){op:POp}{v:Val S}(hp:yK t op=some v)(call:zy)(r:Nat) :
  ∃d,(opE call (PX.ev s.ts) r op).run s.hp=some ⟨d,[],[]⟩∧VS ρ s.hp v d:=by
 cases op with
 | mv x=>exact ⟨_,rfl,h.ev hp⟩
 | nilCheck x=>
  simp only [yK] at hp;split at hp
  ·rename_i o p i j hx
   cases hp;obtain ⟨id,sz,es,h1,h2,h3,h4⟩:=h.ev hx
   exact ⟨.ptr id (i*sz+j),by simp only [opE,h4];rfl,id,sz,es,h1,h2,h3,rfl⟩
  ·rename_i n c v j hx
   cases hp;have k:=h.ev hx
   obtain ⟨r',k'⟩:=k.fp
   refine ⟨x.ev s.ts,?_,k⟩
   rcases qK k' with ⟨ds,e,_⟩ | ⟨_,_,_,_,_,_,_,_,e,_⟩<;>simp only [opE,e]<;>rfl
  ·cases hp
 | bin op x y=>
  simp only [yK] at hp;split at hp
  ·rename_i a c ha hc;split at hp
   ·rename_i d hd;exact ⟨d,by simp only [opE,h.sc ha,h.sc hc,zhJ hd];rfl,(Zj hp).1⟩
   ·cases hp
  ·cases hp
 | eqB neg x y=>
  simp only [yK] at hp;split at hp
  ·rename_i a c ha hc
   cases hp;exact ⟨_,by simp only [opE,h.sc ha,h.sc hc];rfl,qc _⟩
  ·cases hp
 | eqNP neg x=>
  simp only [yK] at hp;split at hp
  ·rename_i hx
   cases hp;have e:x.ev s.ts= .nilp:=h.ev hx
   refine ⟨.bool (!neg),by simp only [opE,e];cases neg<;>rfl,qc _⟩
  ·rename_i hx
   cases hp;obtain ⟨id,sz,es,h1,h2,h3,e⟩:=h.ev hx
   refine ⟨.bool neg,by simp only [opE,e];cases neg<;>rfl,qc _⟩
  ·rename_i hx
   cases hp;obtain ⟨r',k'⟩:=(h.ev hx).fp
   refine ⟨.bool neg,?_,qc _⟩
   rcases qK k' with ⟨ds,e,_⟩ | ⟨_,_,_,_,_,_,_,_,e,_⟩<;>simp only [opE,e]<;>cases neg<;>rfl
  ·cases hp
 | eqNS neg x=>
  simp only [yK] at hp;split at hp
  ·rename_i hx
   cases hp;have e:x.ev s.ts= .nil:=h.ev hx
   refine ⟨.bool (!neg),by simp only [opE,e];cases neg<;>rfl,qc _⟩
  ·cases hp
 | eqA neg ks x y=>
  simp only [yK] at hp;split at hp
  ·rename_i vs ws hv hw;split at hp
   ·rename_i q hq;split at hp
    ·rename_i hk
     cases hp;obtain ⟨ds,e1,k1⟩:=h.agg hv
     obtain ⟨es,e2,k2⟩:=h.agg hw
     obtain ⟨k3,k4,k5⟩:=jI hq k1 k2
     have hk:=of_decide_eq_true hk
     subst hk;exact ⟨_,by simp only [opE,e1,e2,k3,k4,k5,and_self,if_true,Option.map_some];rfl,qc _⟩
    ·cases hp
   ·cases hp
  ·cases hp
 | un op x=>
  simp only [yK] at hp;split at hp
  ·rename_i a ha;split at hp
   ·rename_i d hd;exact ⟨d,by simp only [opE,h.sc ha,hd];rfl,(Zj hp).1⟩
   ·cases hp
  ·cases hp
 | conv c x=>
  simp only [yK] at hp;split at hp
  ·split at hp
   ·rename_i ha
    cases hp;exact ⟨_,by simp only [opE,h.sc ha];rfl,yF _ _⟩
   ·cases hp
  ·split at hp
   ·rename_i ha
    cases hp;exact ⟨_,by simp only [opE,h.sc ha];rfl,(Zj (d:= .flt _) rfl).1⟩
   ·cases hp
  ·exact ⟨_,by simp only [opE];rfl,h.ev hp⟩
  ·cases hp
 | fieldAddr off n x=>
  simp only [yK] at hp;split at hp
  ·rename_i o p i j hx;split at hp
   ·rename_i _ hok
    cases hp;obtain ⟨id,sz,es,h1,h2,h3,e⟩:=h.ev hx
    refine ⟨.ptr id (i*sz+j+off),by simp only [opE,e];rfl,id,sz,es,h1,h2,?_,by rw [Nat.add_assoc]⟩
    exact h.ptrOk hok h1 h2
   ·cases hp
  ·rename_i n' c v j hx;split at hp
   ·rename_i hw
    cases hp;have hw:j+off<(en c v).length:=by rw [yT];simpa using hw
    obtain ⟨r',k'⟩:=(h.ev hx).fp
    have e0:((en c v).drop j++r').drop off=(en c v).drop (j+off)++r':=by
     rw [List.drop_append_of_le_length (by rw [List.length_drop];omega),List.drop_drop]
    rcases qK k' with ⟨ds,e,k⟩ | ⟨m,id,i,jj,sz,es0,e,hn,ex,h2,h3,h4,h5,h6⟩
    ·refine ⟨.fptr (ds.drop off),by simp only [opE,e];rfl,r',?_⟩
     cases n' with
     | zero=>exact k'.elim
     | succ m=>exact Cl.plain rfl (Nr.mk_fptr (by rw [←e0];exact k.drop off))
    ·refine ⟨.ptr id (i*sz+jj+off),by simp only [opE,ex];rfl,r',?_⟩
     have hl:=h4.len
     rw [List.length_append,List.length_drop,List.length_drop] at hl;subst hn;refine .inr (.inr (.inl ⟨_,id,i,jj+off,sz,es0,e,rfl,by rw [Nat.add_assoc],h2,h3,?_,by omega,h6⟩))
     rw [←e0,←List.drop_drop];exact h4.drop off
   ·cases hp
  ·cases hp
 | field ag off n x=>
  simp only [yK] at hp;split at hp
  ·rename_i vs hv;split at hp
   ·rename_i ms hm;obtain ⟨ds,e1,k1⟩:=h.agg hv
    obtain ⟨k2,k3⟩:=Z3 hm k1
    obtain ⟨d,k4,k5⟩:=Yq hp k2
    exact ⟨d,by simp only [opE,e1,k3,if_true,k4];rfl,k5⟩
   ·cases hp
  ·cases hp
 | extract x i=>
  simp only [yK] at hp;split at hp
  ·rename_i vs hv;obtain ⟨ds,e1,k1⟩:=h.ev hv
   obtain ⟨d,k2,k3⟩:=zc9 k1 hp
   exact ⟨d,by simp only [opE,e1,k2];rfl,k3.toVS⟩
  ·cases hp
 | len x=>
  simp only [yK] at hp;split at hp
  ·rename_i hx
   cases hp;have e:x.ev s.ts= .nil:=h.ev hx
   exact ⟨_,by simp only [opE,e];rfl,yF _ _⟩
  ·rename_i n c l hx
   cases hp;have k:Cl s.hp n (.lst (W (S:=S) c) (List.map (en c) l)) (x.ev s.ts):=(h.ev hx).1
   refine ⟨.int .i64 ((List.length (l:List (T S c)):Nat):Int),?_,yF _ _⟩
   rcases k.lst_cases with ⟨e1,e2⟩ | ⟨es',e2,k2⟩ | ⟨k,id,off,len,es0,_,e2,_,_,e3,_⟩
   ·have:l= []:=by simpa using e1
    subst this;simp only [opE,e2];rfl
   ·have:=k2.len
    rw [List.length_map] at this;simp only [opE,e2,this];rfl
   ·rw [List.length_map] at e3;simp only [opE,e2,e3];rfl
  ·rename_i o p off len hx
   cases hp;refine ⟨.int .i64 ((len:Nat):Int),?_,yF _ _⟩
   rcases h.ev hx with ⟨id,_,_,_,_,_,e⟩ | ⟨_,rfl,rfl,e⟩<;>simp only [opE,e]<;>rfl
  ·cases hp
 | lenS x=>
  simp only [yK] at hp;split at hp
  ·rename_i ha
   cases hp;exact ⟨_,by simp only [opE,h.sc ha];rfl,yF _ _⟩
  ·cases hp
 | build zero parts=>
  simp only [yK] at hp;split at hp
  ·rename_i z hz;split at hp
   ·rename_i vs hf
    cases hp;obtain ⟨k1,ds,k2,k3⟩:=h.fill hf (Yk hz)
    exact ⟨.agg ds,by simp only [opE,k1,k2,if_true];rfl,ds,rfl,k3⟩
   ·cases hp
  ·cases hp
 | minmax mx x ys=>
  simp only [yK] at hp;split at hp
  ·rename_i k a y ha;split at hp
   ·rename_i k' c hc;split at hp
    ·rename_i hk
     cases hp;have hk:=of_decide_eq_true hk
     subst hk;exact ⟨_,by simp only [opE,h.sc ha,List.map_cons,List.map_nil,h.sc hc,Yl,if_true];rfl,yF _ _⟩
    ·cases hp
   ·cases hp
  ·cases hp
 | load ag n x=>
  simp only [yK] at hp;split at hp
  ·rename_i m c v j hx;split at hp
   ·rename_i ms hn hm;obtain ⟨r',k'⟩:=(h.ev hx).fp
    obtain ⟨ds,k1,k2⟩:=zhq k' (by simpa using hn) hm call (PX.ev s.ts) r x rfl ag
    obtain ⟨d,k3,k4⟩:=Yq hp k1
    exact ⟨d,by rw [k2,k3];rfl,k4⟩
   ·cases hp
  ·cases hp
 | ofBits x=>
  simp only [yK] at hp;split at hp
  ·rename_i ha
   cases hp;exact ⟨_,by simp only [opE,h.sc ha];rfl,(Zj (d:= .flt _) rfl).1⟩
  ·cases hp
 | _=>cases hp
end
theorem zp {H:zf}{id j:Nat}{k:Blk}(h:id<H.length):hat (H.set id k) j=if j=id then k else hat H j:=by
 unfold hat;rw [List.getD,List.getElem?_set];by_cases hj:id=j
 ·subst hj;simp [h]
 ·simp [hj,Ne.symm hj,List.getD]
theorem yB {H:zf}{id:Nat}(h:hat H id ≠ .fresh):id<H.length:=by
 rcases Nat.lt_or_ge id H.length with k | k
 ·exact k
 ·exact absurd (by simp [hat,List.getD,k]) h
theorem jg {H:zf}{id:Nat}{k:Blk}(hn: ∀sz es,hat H id ≠ .row sz es false):HLe H (H.set id k):=by
 intro j sz es hj;have hl:j<H.length:=yB (by rw [hj];simp)
 rcases Nat.lt_or_ge id H.length with q | q
 ·rw [zp q];split
  ·rename_i e;subst e;exact absurd hj (hn sz es)
  ·exact hj
 ·rw [List.set_eq_of_length_le q];exact hj
section
variable {S:Nat→Type} [Sg:Sig S] {ρ ρ':Rho} {H H':zf} {fr:Fr} {b N:Nat} {t:TS S} {s:St} {α:Type}
def zgz:(e:Code)→List (T S e)→List Nat→((e:Code)→List (T S e)→Option α)→Option α
 | e,l,[],K=>K e l
 | .own e,l,i::p,K=>(l[i]?).bind fun v=>zgz e v p K
 | _,_,_::_,_=>none
theorem qT {n:Nat}{e:Code}{q:List Nat→Option (Option Nat)}{l:List (T S (.own e))}(h:zw H n (.own e) q l){i:Nat}{v:T S (.own e)}(hv:l[i]? = some v) :
  ∃id es x,q []=some (some id)∧hat H id= .row 1 es true∧es.length=l.length∧q [i]=some x∧es[i]? = some [yN x (List.length v)]∧zw H n e (fun p=>q (i::p)) v:=by
 rcases h with ⟨_,rfl⟩ | ⟨id,es,h1,h2,h3,h4⟩
 ·cases hv
 ·obtain ⟨ds,h5,x,h6,rfl,h7⟩:=h4 i v hv
  exact ⟨id,es,x,h1,h2,h3,h6,h5,h7⟩
theorem zcJ {n:Nat}{r:α}: ∀ {p:List Nat} {e:Code} {l:List (T S e)} {q:List Nat→Option (Option Nat)} {K:(e:Code)→List (T S e)→Option α},zgz e l p K=some r→zw H n e q l →
  ∃e' l',K e' l'=some r∧zw H n e' (fun x=>q (p++x)) l'
 | [],e,l,q,K,h,k=>by
  have h:K e l=some r:=by cases e<;>exact h
  exact ⟨e,l,h,k⟩
 | i::p,.own e,l,q,K,h,k=>by
  simp only [zgz,Option.bind_eq_some_iff] at h;obtain ⟨v,hv,h⟩:=h
  obtain ⟨id,es,x,h1,h2,h3,h4,h5,h6⟩:=qT k hv
  obtain ⟨e',l',h7,h8⟩:=zcJ h h6
  exact ⟨e',l',h7,h8⟩
 | _::_,.int _,_,_,_,h,_ | _::_,.bool,_,_,_,h,_ | _::_,.flt,_,_,_,h,_ | _::_,.str,_,_,_,h,_ | _::_,.list _,_,_,_,h,_ | _::_,.arr _ _,_,_,_,h,_ | _::_,.st _,_,_,_,h,_=>nomatch h
def rowOf (t:TS S)(o:Nat)(p:List Nat)(K:Nat→(e:Code)→List (T S e)→Option α):Option α:=match look t.hp o with
 | some (.row n e l)=>zgz e l p (K n)
 | _=>none
theorem zc.rowOf (h:zc fr b N ρ t s){o:Nat}{p:List Nat}{K:Nat→(e:Code)→List (T S e)→Option α}{r:α}(hr:Pi.rowOf t o p K=some r) :
  ∃n e l,K n e l=some r∧zw s.hp n e (fun x=>ρ o (p++x)) l:=by
 unfold Pi.rowOf at hr;split at hr
 ·rename_i n e l ho;obtain ⟨e',l',h1,h2⟩:=zcJ hr (h.hp _ _ ho)
  exact ⟨n,e',l',h1,h2⟩
 ·cases hr
theorem qe.top {β:Type}{sz:Nat}{q:List Nat→Option (Option Nat)}{l:List β}{E:Nat→β→List D→Prop}(h:qe H sz q l E):(q []=some none∧l= []) ∨ ∃id es,q []=some (some id)∧hat H id= .row sz es true∧es.length=l.length:=
 h.elim .inl fun ⟨id,es,h1,h2,h3,_⟩=> .inr ⟨id,es,h1,h2,h3⟩
theorem zw.top {n:Nat}{e:Code}{q:List Nat→Option (Option Nat)}{l:List (T S e)}(h:zw H n e q l):(q []=some none∧l= []) ∨ ∃id es,q []=some (some id)∧hat H id= .row (W (S:=S) e) es true∧es.length=l.length:=by
 cases e<;>exact qe.top h
theorem zw.el {n:Nat}{e:Code}(he:zW e=false){q:List Nat→Option (Option Nat)}{l:List (T S e)}(h:zw H n e q l){i:Nat}{v:T S e}(hv:l[i]? = some v) :
  ∃id es ds,q []=some (some id)∧hat H id= .row (W (S:=S) e) es true∧es.length=l.length∧es[i]? = some ds∧zg (Cl H n) (en e v) ds:=by
 rw [Xh he] at h;rcases h with ⟨_,rfl⟩ | ⟨id,es,h1,h2,h3,h4⟩
 ·cases hv
 ·obtain ⟨ds,h5,h6⟩:=h4 i v hv
  exact ⟨id,es,ds,h1,h2,h3,h5,h6⟩
def zcd:(e:Code)→List (T S e)→List Nat→((e:Code)→List (T S e)→(List (T S e)→Option α)→Option α)→(List (T S e)→Option α)→Option α
 | e,l,[],F,K=>F e l K
 | .own e,l,i::p,F,K=>(l[i]?).bind fun v=>zcd e v p F fun v'=>K (List.set l i v')
 | _,_,_::_,_,_=>none
theorem zas {n:Nat}{r:α}: ∀ {p:List Nat} {e:Code} {l:List (T S e)} {q:List Nat→Option (Option Nat)} {F:(e:Code)→List (T S e)→(List (T S e)→Option α)→Option α} {K:List (T S e)→Option α},
  zcd e l p F K=some r→zw H n e q l →
  ∃(e':Code) (l':List (T S e')) (back:List (T S e')→List (T S e)),F e' l' (fun v=>K (back v))=some r∧zw H n e' (fun x=>q (p++x)) l' ∧
   ∀H' l'',HLe H H'→l''.length=l'.length→(∀x id,q x=some (some id)→x≠p→hat H' id=hat H id)→(∀x y z,q x=some z→q y=some z→ ∀id,z=some id→x=y)→zw H' n e' (fun x=>q (p++x)) l''→zw H' n e q (back l'')∧(back l'').length=l.length
 | [],e,l,q,F,K,h,k=>by
  have h:F e l K=some r:=by cases e<;>exact h
  exact ⟨e,l,id,h,k,fun H' l'' _ hl _ _ k=>⟨k,hl⟩⟩
 | i::p,.own e,l,q,F,K,h,k=>by
  simp only [zcd,Option.bind_eq_some_iff] at h;obtain ⟨v,hv,h⟩:=h
  obtain ⟨id,es,x,h1,h2,h3,h4,h5,h6⟩:=qT k hv
  obtain ⟨e',l',back,h7,h8,h9⟩:=zas h h6
  refine ⟨e',l',fun w=>List.set l i (back w),h7,h8,fun H' l'' hle hl hh hi hr=> ?_⟩
  obtain ⟨h10,h11⟩:=h9 H' l'' hle hl (fun x id hx hne=>hh _ _ hx (fun e=>hne (by simpa using e))) (fun x y z hx hy id hz=>by simpa using hi _ _ _ hx hy id hz) hr
  have hil:i<l.length:=by
   rcases Nat.lt_or_ge i l.length with q | q
   ·exact q
   ·rw [List.getElem?_eq_none q] at hv;cases hv
  refine ⟨?_,by simp⟩
  rcases k with ⟨_,rfl⟩ | ⟨id',es',k1,k2,k3,k4⟩
  ·cases hv
  ·rw [h1] at k1
   cases k1;rw [h2] at k2
   cases k2;refine .inr ⟨id,es,h1,by rw [hh _ _ h1 (by simp),h2],by simp [h3],fun j w hw=> ?_⟩
   rw [List.getElem?_set] at hw;split at hw
   ·rename_i e;subst e;simp only [hil,if_true,Option.some.injEq] at hw;subst hw;exact ⟨_,h5,x,h4,by rw [h11],h10⟩
   ·rename_i hne;obtain ⟨ds,k5,y,k6,k7,k8⟩:=k4 j w hw
    refine ⟨ds,k5,y,k6,k7,?_⟩
    exact zw.ext hle (fun _ _ hx=>hx) (fun x id hx=>hh _ _ hx (by simp only [ne_eq,List.cons.injEq,not_and];exact fun e=>absurd e.symm hne)) k8
 | _::_,.int _,_,_,_,_,h,_ | _::_,.bool,_,_,_,_,h,_ | _::_,.flt,_,_,_,_,h,_ | _::_,.str,_,_,_,_,h,_ | _::_,.list _,_,_,_,_,h,_ | _::_,.arr _ _,_,_,_,_,h,_ | _::_,.st _,_,_,_,_,h,_=>nomatch h
def ins (ρ:Rho)(o:Nat)(q:List Nat→Option (Option Nat)):Rho:=fun o' p=>if o'=o then q p else ρ o' p
def at0 (x:Option Nat):List Nat→Option (Option Nat)
 | []=>some x
 | _=>none
def TS.add (t:TS S)(ob:Obj S):TS S:= { t with hp:=(t.nx,ob)::t.hp,nx:=t.nx+1 }
def TS.take (t:TS S)(r:Nat):TS S:= { t with av:=t.av.erase r }
theorem qv {o o':Nat}(h:o'≠o)(q:List Nat→Option (Option Nat))(p:List Nat):ins ρ o q o' p=ρ o' p:=by simp [ins,h]
theorem zF (o:Nat)(q:List Nat→Option (Option Nat))(p:List Nat):ins ρ o q o p=q p:=by simp [ins]
theorem zR {x:Option Nat}{p:List Nat}{y:Option Nat}(h:at0 x p=some y):p= []∧y=x:=by
 cases p with
 | nil=>cases h;exact ⟨rfl,rfl⟩
 | cons _ _=>cases h
theorem zc.addObj (h:zc fr b N ρ t s){q:List Nat→Option (Option Nat)}{ob:Obj S}(hq1: ∀p p' id,q p=some (some id)→q p'=some (some id)→p=p')(hq2: ∀p id,q p=some (some id)→(∀o p',ρ o p'≠some (some id))∧fr id=none∧ ∃sz es,hat s.hp id= .row sz es true)
  (hob:Ext ρ s.hp (ins ρ t.nx q) s.hp→qn fr (ins ρ t.nx q) s.hp t.nx ob):zc fr b N (ins ρ t.nx q) (t.add ob) s:=by
 have hx:Ext ρ s.hp (ins ρ t.nx q) s.hp:=⟨HLe.refl _,fun o p x hx=>by
  rw [qv (fun e=>by subst e;rw [h.nxt _ _ (Nat.le_refl _)] at hx;cases hx)]
  exact hx,fun o p id sz es _ he=>⟨es,he,rfl⟩⟩
 refine ⟨h.len,fun i v hv=>(h.sl i v hv).ext hx,fun o ob' ho=> ?_,fun o p o' p' id h1 h2=> ?_,fun o p id h1=> ?_,fun o p ho=> ?_,h.frm,h.avl⟩
 ·simp only [TS.add,look] at ho;split at ho
  ·rename_i e
   cases ho;obtain rfl:=Nat.eq_of_beq_eq_true e
   exact hob hx
  ·exact qn.ext hx (fun p id _=>rfl) (h.hp _ _ ho)
 ·simp only [ins] at h1 h2;split at h1<;>split at h2
  ·rename_i e1 e2;subst e1 e2;exact ⟨rfl,hq1 _ _ _ h1 h2⟩
  ·exact absurd h2 ((hq2 _ _ h1).1 _ _)
  ·exact absurd h1 ((hq2 _ _ h2).1 _ _)
  ·exact h.inj _ _ _ _ _ h1 h2
 ·simp only [ins] at h1;split at h1
  ·exact (hq2 _ _ h1).2
  ·exact h.liv _ _ _ h1
 ·have ho:t.nx+1≤o:=ho
  rw [qv (by omega)];exact h.nxt _ _ (by omega)
theorem zc.fresh (h:zc fr b N ρ t s){r sz:Nat}{es:List (List D)}(hr:t.av.contains r=true) :
  zc fr b N ρ (t.take r) ⟨s.ts,s.hp.set (b+r) (.row sz es true)⟩∧Ext ρ s.hp ρ (s.hp.set (b+r) (.row sz es true))∧hat (s.hp.set (b+r) (.row sz es true)) (b+r)= .row sz es true ∧
   (∀o p,ρ o p≠some (some (b+r)))∧fr (b+r)=none∧hat s.hp (b+r)= .fresh∧b+r<s.hp.length:=by
 have hm:r∈t.av:=by simpa using hr
 obtain ⟨hn,ha⟩:=h.avl
 obtain ⟨h1,h2,h3⟩:=ha r hm
 have hnot: ∀o p,ρ o p≠some (some (b+r)):=fun o p e=>by
  obtain ⟨_,_,_,k⟩:=h.liv _ _ _ e
  rw [h1] at k
  cases k
 have hne: ∀ {j:Nat},j≠b+r→hat (s.hp.set (b+r) (.row sz es true)) j=hat s.hp j:=fun hj=>by rw [zp h2,if_neg hj]
 have hx:Ext ρ s.hp ρ (s.hp.set (b+r) (.row sz es true)):=⟨jg (fun _ _ e=>by rw [h1] at e;cases e),fun _ _ _ h=>h,fun o p id sz' es' k1 k2=>
  ⟨es',by rw [hne (fun e=>by subst e;exact hnot _ _ k1)];exact k2,rfl⟩⟩
 refine ⟨⟨h.len,fun i v hv=>(h.sl i v hv).ext hx,fun o ob ho=>qn.ext hx (fun p id k=>hne (fun e=>by subst e;exact hnot _ _ k)) (h.hp _ _ ho),h.inj,fun o p id k=> ?_,h.nxt,fun id k hk=> ?_,?_⟩,hx,by rw [zp h2,if_pos rfl],hnot,h3,h1,h2⟩
 ·obtain ⟨k1,sz',es',k2⟩:=h.liv _ _ _ k
  exact ⟨k1,sz',es',by rw [hne (fun e=>by subst e;exact hnot _ _ k)];exact k2⟩
 ·obtain ⟨k1,k2⟩:=h.frm _ _ hk
  refine ⟨by rw [hne (fun e=>by subst e;rw [h3] at hk;cases hk)];exact k1,by simpa using k2⟩
 ·refine ⟨hn.erase r,fun r' hr'=> ?_⟩
  have hr2:r'∈t.av.erase r:=hr'
  obtain ⟨k1,k2⟩:=(List.Nodup.mem_erase_iff hn).mp hr2
  obtain ⟨k3,k4,k5⟩:=ha r' k2
  exact ⟨by rw [hne (by omega)];exact k3,by simpa using k4,k5⟩
theorem zc.newQ2 (h:zc fr b N ρ t s){r sz:Nat}{es:List (List D)}{ob:Obj S}(q:List Nat→Option (Option Nat))(hr:t.av.contains r=true)(hq: ∀p id,q p=some (some id)→p= []∧id=b+r)
  (hob: ∀ρ' H',Ext ρ s.hp ρ' H'→ρ' t.nx=q→hat H' (b+r)= .row sz es true→qn fr ρ' H' t.nx ob) :
  ∃ρ',zc fr b N ρ' ((t.take r).add ob) ⟨s.ts,s.hp.set (b+r) (.row sz es true)⟩∧ρ' t.nx=q∧hat (s.hp.set (b+r) (.row sz es true)) (b+r)= .row sz es true∧hat s.hp (b+r)= .fresh∧b+r<s.hp.length∧(∀o p x,ρ o p=some x→ρ' o p=some x)∧HLe s.hp (s.hp.set (b+r) (.row sz es true)):=by
 obtain ⟨h1,h2,h3,h4,h5,h6,h7⟩:=h.fresh (sz:=sz) (es:=es) hr
 have e:ins ρ t.nx q t.nx=q:=funext fun p=>zF _ _ _
 refine ⟨ins ρ t.nx q,h1.addObj (q:=q) (fun p p' id e1 e2=>by rw [(hq _ _ e1).1,(hq _ _ e2).1]) (fun p id e=> ?_) (fun hx=> ?_),e,h3,h6,h7,fun o p x hx=> ?_,h2.hle⟩
 ·obtain ⟨rfl,rfl⟩:=hq _ _ e
  exact ⟨h4,h5,sz,es,h3⟩
 ·refine hob _ _ ⟨fun j sz es hj=>h2.hle j sz es hj,fun o p x k=>hx.map _ _ _ k,fun o p id sz es k1 k2=> ?_⟩ e h3
  exact h2.row _ _ _ _ _ k1 k2
 ·rw [qv (fun e=>by subst e;rw [h.nxt _ _ (Nat.le_refl _)] at hx;cases hx)]
  exact hx
theorem zc.new2 (h:zc fr b N ρ t s){r sz:Nat}{es:List (List D)}{ob:Obj S}(hr:t.av.contains r=true)
  (hob: ∀ρ' H',Ext ρ s.hp ρ' H'→ρ' t.nx []=some (some (b+r))→hat H' (b+r)= .row sz es true→qn fr ρ' H' t.nx ob) :
  ∃ρ',zc fr b N ρ' ((t.take r).add ob) ⟨s.ts,s.hp.set (b+r) (.row sz es true)⟩∧ρ' t.nx []=some (some (b+r))∧hat (s.hp.set (b+r) (.row sz es true)) (b+r)= .row sz es true∧hat s.hp (b+r)= .fresh∧b+r<s.hp.length∧(∀o p x,ρ o p=some x→ρ' o p=some x)∧HLe s.hp (s.hp.set (b+r) (.row sz es true)):=by
 obtain ⟨ρ',k1,k2,k3⟩:=h.newQ2 (sz:=sz) (es:=es) (ob:=ob) (at0 (some (b+r))) hr (fun p id e=>by obtain ⟨h1,h2⟩:=zR e;cases h2;exact ⟨h1,rfl⟩) (fun ρ' H' hx e k=>hob ρ' H' hx (by rw [e];rfl) k)
 exact ⟨ρ',k1,by rw [k2];rfl,k3⟩
end
section
variable {S:Nat→Type} [Sg:Sig S] {ρ ρ':Rho} {H H':zf} {fr:Fr} {b N:Nat} {t:TS S} {s:St} {α:Type}
def TS.setO (t:TS S)(o:Nat)(ob:Obj S):TS S:= { t with hp:=(o,ob)::rem t.hp o }
theorem zc.upd (h:zc fr b N ρ t s){o:Nat}{p:List Nat}{id sz:Nat}{es es':List (List D)}{ob:Obj S}(h1:ρ o p=some (some id))(h2:hat s.hp id= .row sz es true)(hl:es'.length=es.length)
  (hob:Ext ρ s.hp ρ (s.hp.set id (.row sz es' true))→hat (s.hp.set id (.row sz es' true)) id= .row sz es' true→(∀j,j≠id→hat (s.hp.set id (.row sz es' true)) j=hat s.hp j)→qn fr ρ (s.hp.set id (.row sz es' true)) o ob) :
  zc fr b N ρ (t.setO o ob) ⟨s.ts,s.hp.set id (.row sz es' true)⟩:=by
 have hlt:id<s.hp.length:=yB (by rw [h2];simp)
 have hne: ∀j,j≠id→hat (s.hp.set id (.row sz es' true)) j=hat s.hp j:=fun j hj=>by rw [zp hlt,if_neg hj]
 have he:hat (s.hp.set id (.row sz es' true)) id= .row sz es' true:=by rw [zp hlt,if_pos rfl]
 have hx:Ext ρ s.hp ρ (s.hp.set id (.row sz es' true)):=⟨jg (fun _ _ e=>by rw [h2] at e;cases e),fun _ _ _ h=>h,fun o' p' id' sz' es2 k1 k2=>by
  by_cases e:id'=id
  ·subst e;rw [h2] at k2
   cases k2;exact ⟨es',he,hl⟩
  ·exact ⟨es2,by rw [hne _ e];exact k2,rfl⟩⟩
 refine ⟨h.len,fun i v hv=>(h.sl i v hv).ext hx,fun o' ob' ho=> ?_,h.inj,fun o' p' id' k=> ?_,h.nxt,fun id' k hk=> ?_,?_⟩
 ·rcases XP ho with ⟨rfl,rfl⟩ | ⟨hj,ho⟩
  ·exact hob hx he hne
  ·exact qn.ext hx (fun p' id' k=>hne _ (fun e=>by subst e;exact hj (h.inj _ _ _ _ _ k h1).1)) (h.hp _ _ ho)
 ·obtain ⟨k1,sz',es2,k2⟩:=h.liv _ _ _ k
  obtain ⟨es3,k3,_⟩:=hx.row _ _ _ _ _ k k2
  exact ⟨k1,sz',es3,k3⟩
 ·obtain ⟨k1,k2⟩:=h.frm _ _ hk
  refine ⟨by rw [hne _ (fun e=>by subst e;rw [(h.liv _ _ _ h1).1] at hk;cases hk)];exact k1,by simpa using k2⟩
 ·refine ⟨h.avl.1,fun r hr=> ?_⟩
  obtain ⟨k1,k2,k3⟩:=h.avl.2 r hr
  exact ⟨by rw [hne _ (fun e=>by rw [e,h2] at k1;cases k1)];exact k1,by simpa using k2,k3⟩
def yk (N:Nat):Option Nat→Bool
 | none=>true
 | some i=>Nat.blt i N
def TS.putD (t:TS S):Option Nat→Val S→TS S
 | none,_=>t
 | some i,v=>t.put i v
theorem zc.putD (h:zc fr b N ρ t s){dst:Option Nat}(hd:yk N dst=true){v:Val S}{d:D}(hv:VS ρ s.hp v d):zc fr b N ρ (t.putD dst v) ⟨yh s.ts dst d,s.hp⟩:=by
 cases dst with
 | none=>exact h
 | some i=>exact h.put (by simpa [yk] using hd) hv
def Got (fr:Fr)(b N:Nat)(s:St)(op:POp)(res:Nat)(dst:Option Nat)(P:TS S→Prop):Prop:=
 ∀call:zy, ∃out ρ' t',(opE call (PX.ev s.ts) (b+res) op).run s.hp=some out∧zc fr b N ρ' t' ⟨yh s.ts dst out.d,out.on s.hp⟩∧P t'
def zcp:POp→Bool
 | .alloc _ | .box _ _ | .buildSlice _ _ _ _ | .makeSlice _ _ _ _ _=>true
 | _=>false
def GX (ρ ρ':Rho)(nx r:Nat)(H H':zf)(op:POp):Prop:=(∀o p x,ρ o p=some x→ρ' o p=some x)∧HLe H H'∧(zcp op=true→ρ' nx []=some (some r))
def zV (ρ:Rho)(nx:Nat)(fr:Fr)(b N:Nat)(s:St)(op:POp)(res:Nat)(dst:Option Nat)(P:TS S→Prop):Prop:=
 ∀call:zy, ∃out ρ' t',(opE call (PX.ev s.ts) (b+res) op).run s.hp=some out∧zc fr b N ρ' t' ⟨yh s.ts dst out.d,out.on s.hp⟩∧GX ρ ρ' nx (b+res) s.hp (out.on s.hp) op∧P t'
theorem zV.got {nx:Nat}{op:POp}{res:Nat}{dst:Option Nat}{P:TS S→Prop}(h:zV ρ nx fr b N s op res dst P):Got fr b N s op res dst P:=fun call=>by
 obtain ⟨out,ρ',t',h1,h2,_,h3⟩:=h call
 exact ⟨out,ρ',t',h1,h2,h3⟩
theorem zV.quiet {nx:Nat}{op:POp}{res:Nat}{dst:Option Nat}{P:TS S→Prop}{d:D}{v:Val S}(h:zc fr b N ρ t s)(hd:yk N dst=true)(hv:VS ρ s.hp v d)(hr: ∀call,(opE call (PX.ev s.ts) (b+res) op).run s.hp=some ⟨d,[],[]⟩)(hP:P (t.putD dst v))(hn:zcp op=false:=by rfl):zV ρ nx fr b N s op res dst P:=
 fun call=>⟨_,ρ,t.putD dst v,hr call,h.putD hd hv,⟨fun _ _ _ h=>h,fun _ _ _ h=>h,fun e=>by rw [hn] at e;cases e⟩,hP⟩
variable {dst:Option Nat} {res:Nat} {r:α} {K:TS S→Option α}
def Ua (dst:Option Nat)(c x y:PX)(t:TS S)(K:TS S→Option α):Option α:=match scE t c with
 | some (.bool z)=>cond z (match evK t x with | some v=>K (t.putD dst v) | none=>none) (match evK t y with | some v=>K (t.putD dst v) | none=>none)
 | _=>none
theorem VA (h:zc fr b N ρ t s)(hd:yk N dst=true){c x y:PX}(hr:Ua dst c x y t K=some r):zV ρ t.nx fr b N s (.pick c x y) res dst (fun t'=>K t'=some r):=by
 unfold Ua at hr;split at hr
 ·rename_i z hz
  cases z with
  | true=>
   simp only [cond_true] at hr;split at hr
   ·exact zV.quiet h hd (h.ev (by assumption)) (fun call=>by simp only [opE,h.sc hz];rfl) hr
   ·cases hr
  | false=>
   simp only [cond_false] at hr;split at hr
   ·exact zV.quiet h hd (h.ev (by assumption)) (fun call=>by simp only [opE,h.sc hz];rfl) hr
   ·cases hr
 ·cases hr
def zdh (s:List UInt8):Val S:= .one 1 .str s
theorem Y7 (l:List UInt8):VS (S:=S) ρ H (zdh l) (.str l):=(Zj (d:= .str l) rfl).1
def zcl (dst:Option Nat)(op:BinOp)(x y:PX)(t:TS S)(K:TS S→Option α):Option α:=match scE t x,scE t y with
 | some (.int k a),some (.int k' c)=>(match op with
  | .quo=>(match decide (k=k') with
   | true=>nz c (K (t.putD dst (YE k (k.wrap (a.tdiv c)))))
   | false=>none)
  | .rem=>(match decide (k=k') with
   | true=>nz c (K (t.putD dst (YE k (a.tmod c))))
   | false=>none)
  | .shl=>nn c (K (t.putD dst (YE k (k.wrap (a*2 ^ min c.toNat k.bits)))))
  | .shr=>nn c (K (t.putD dst (YE k (a.fdiv (2 ^ min c.toNat k.bits)))))
  | _=>none)
 | some (.str a),some (.str c)=>(match op with
  | .add=>room (a.length+c.length) 1 (K (t.putD dst (zdh (a++c))))
  | _=>none)
 | _,_=>none
theorem zaD (h:zc fr b N ρ t s)(hd:yk N dst=true){op:BinOp}{x y:PX}(hr:zcl dst op x y t K=some r):zV ρ t.nx fr b N s (.bin op x y) res dst (fun t'=>K t'=some r):=by
 unfold zcl at hr;split at hr
 ·rename_i k a k' c ha hc;split at hr
  ·split at hr
   ·rename_i hk;obtain rfl:=of_decide_eq_true hk
    simp only [nz] at hr;split at hr
    ·cases hr
    ·rename_i hz;exact zV.quiet h hd (yF _ _) (fun call=>by simp only [opE,h.sc ha,h.sc hc,Xl,zbq,if_true,if_neg hz];rfl) hr
   ·cases hr
  ·split at hr
   ·rename_i hk;obtain rfl:=of_decide_eq_true hk
    simp only [nz] at hr;split at hr
    ·cases hr
    ·rename_i hz;exact zV.quiet h hd (yF _ _) (fun call=>by simp only [opE,h.sc ha,h.sc hc,Xl,zbq,if_true,if_neg hz];rfl) hr
   ·cases hr
  ·simp only [nn] at hr;split at hr
   ·cases hr
   ·rename_i hz;exact zV.quiet h hd (yF _ _) (fun call=>by simp only [opE,h.sc ha,h.sc hc,Xl,Xx,if_neg hz];rfl) hr
  ·simp only [nn] at hr;split at hr
   ·cases hr
   ·rename_i hz;exact zV.quiet h hd (yF _ _) (fun call=>by simp only [opE,h.sc ha,h.sc hc,Xl,Xx,if_neg hz];rfl) hr
  ·cases hr
 ·rename_i a c ha hc;split at hr
  ·simp only [room] at hr;split at hr
   ·rename_i hl;exact zV.quiet h hd (Y7 _) (fun call=>by simp only [opE,h.sc ha,h.sc hc,Xl,zgJ];rw [if_pos (show a.length+c.length≤1099511627776 from hl.1)];rfl) hr
   ·cases hr
  ·cases hr
 ·cases hr
theorem zcR {o id sz:Nat}{p:List Nat}{es:List (List D)}(h1:ρ o p=some (some id))(h2:hat H id= .row sz es true)(h3:0<sz):VS (S:=S) ρ H (.ptr o p 0 0) (.ptr id 0):=⟨id,sz,es,h1,h2,h3,by rw [Nat.zero_mul]⟩
theorem yA {o id sz n:Nat}{p:List Nat}{es:List (List D)}(h1:ρ o p=some (some id))(h2:hat H id= .row sz es true)(h3:es.length=n):VS (S:=S) ρ H (.whole o p) (.ref id 0 n):= .inl ⟨id,sz,es,h1,h2,by rw [h3]⟩
def J4 (dst:Option Nat)(res:Nat)(zero:List D)(t:TS S)(K:TS S→Option α):Option α:=match VZ zero,t.av.contains res&&Nat.blt 0 zero.length with
 | some vs,true=>K (((t.take res).add (.box none vs)).putD dst (.ptr t.nx [] 0 0))
 | _,_=>none
theorem X4 (h:zc fr b N ρ t s)(hd:yk N dst=true){zero:List D}(hr:J4 dst res zero t K=some r):zV ρ t.nx fr b N s (.alloc zero) res dst (fun t'=>K t'=some r):=by
 unfold J4 at hr;split at hr
 ·rename_i vs hz ha;simp only [Bool.and_eq_true] at ha;have hv: ∀ρ' H',VCs (S:=S) ρ' H' vs zero:=fun _ _=>Yk hz
  obtain ⟨ρ',k1,k2,k3,k4,k5,k6,k7⟩:=h.new2 (r:=res) (sz:=zero.length) (es:= [zero]) (ob:= .box none vs) ha.1 (fun ρ' H' hx e1 e2=>⟨_,zero,e1,by rw [←(hv ρ' H').len];exact e2,hv _ _,trivial⟩)
  intro call;exact ⟨⟨.ptr (b+res) 0,[(b+res,.row zero.length [zero] true)],[]⟩,ρ',_,by simp only [opE,Eff.run,k5,k4,if_true],k1.putD hd (zcR k2 k3 (by simpa using ha.2)),⟨k6,k7,fun _=>k2⟩,hr⟩
 ·cases hr
def zeM (dst:Option Nat)(res n:Nat)(x:PX)(t:TS S)(K:TS S→Option α):Option α:=match Q0 t x with
 | some vs=>(match Nat.beq (yr vs) n&&t.av.contains res&&Nat.blt 0 n with
  | true=>K (((t.take res).add (.box none vs)).putD dst (.ptr t.nx [] 0 0))
  | false=>none)
 | none=>none
theorem zf3 (h:zc fr b N ρ t s)(hd:yk N dst=true){n:Nat}{x:PX}(hr:zeM dst res n x t K=some r):zV ρ t.nx fr b N s (.box n x) res dst (fun t'=>K t'=some r):=by
 unfold zeM at hr;split at hr
 ·rename_i vs hx;split at hr
  ·rename_i ha;simp only [Bool.and_eq_true] at ha;obtain ⟨c1,c2⟩:=h.cells hx
   have hw:=Nat.eq_of_beq_eq_true ha.1.1
   obtain ⟨ρ',k1,k2,k3,k4,k5,k6,k7⟩:=h.new2 (r:=res) (sz:=n) (es:= [cellsOf (x.ev s.ts)]) (ob:= .box none vs) ha.1.2 (fun ρ' H' hx e1 e2=>⟨_,_,e1,by rw [hw];exact e2,c1.ext hx,trivial⟩)
   intro call;refine ⟨⟨.ptr (b+res) 0,[(b+res,.row n [cellsOf (x.ev s.ts)] true)],[]⟩,ρ',_,?_,k1.putD hd (zcR k2 k3 (by simpa using ha.2)),⟨k6,k7,fun _=>k2⟩,hr⟩
   simp only [opE];rw [if_pos ⟨by rw [c1.len,hw],c2⟩]
   simp only [Eff.run,k5,k4,if_true]
  ·cases hr
 ·cases hr
def zpF:Val S→Nat
 | .one n _ _=>n
 | _=>1
def zlb:List (Val S)→Nat
 | []=>1
 | v::vs=>Nat.max (zpF v) (zlb vs)
def zdo:List (List (Val S))→Nat
 | []=>1
 | v::vs=>Nat.max (zlb v) (zdo vs)
omit Sg in
theorem zaZ: ∀vs:List (List (Val S)),0<zdo vs
 | []=>Nat.one_pos
 | _::vs=>Nat.lt_of_lt_of_le (zaZ vs) (Nat.le_max_right _ _)
def mkL (n:Nat)(e:Code):List (List (Val S))→Option (List (T S e))
 | []=>some []
 | v::vs=>match mk n e v,mkL n e vs with
  | some x,some l=>some (x::l)
  | _,_=>none
theorem ze7 {n:Nat}(hn:0<n){e:Code}: ∀ {vs:List (List (Val S))} {l:List (T S e)} {ds:List (List D)},mkL n e vs=some l→zg (VCs ρ H) vs ds→ds.length=l.length∧ ∀(i:Nat) (v:T S e),l[i]? = some v→ ∃d,ds[i]? = some d∧zg (Cl H n) (en e v) d
 | [],l,[],h,_=>by cases h;exact ⟨rfl,fun i v hv=>by cases hv⟩
 | v::vs,l,d::ds,h,k=>by
  simp only [mkL] at h;split at h
  ·rename_i x l' hx hl
   cases h;obtain ⟨h1,h2⟩:=ze7 hn hl k.2
   refine ⟨by simp [h1],fun i w hw=> ?_⟩
   cases i with
   | zero=>cases hw;exact ⟨d,rfl,Jq hn hx k.1⟩
   | succ i=>exact h2 i w hw
  ·cases h
 | [],_,_::_,_,k | _::_,_,[],_,k=>k.elim
def zcu (t:TS S)(sz:Nat):List (List (Val S))→List (Nat×PX)→Option (List (List (Val S)))
 | z,[]=>some z
 | z,(i,x)::ps=>match Q0 t x with
  | some ws=>(match Nat.beq (yr ws) sz&&Nat.blt i z.length with
   | true=>zcu t sz (z.set i ws) ps
   | false=>none)
  | none=>none
theorem zaT (h:zc fr b N ρ t s){sz:Nat}: ∀ {ps:List (Nat×PX)} {z vs:List (List (Val S))} {zd:List (List D)},zcu t sz z ps=some vs→zg (VCs ρ s.hp) z zd →
  (ps.all fun p=>(cellsOf (p.2.ev s.ts)).all one)=true∧ ∃ds,YJ sz zd (ps.map fun p=>(p.1,p.2.ev s.ts))=some ds∧zg (VCs ρ s.hp) vs ds∧ds.length=zd.length
 | [],z,vs,zd,hf,hz=>by cases hf;exact ⟨rfl,zd,rfl,hz,rfl⟩
 | (i,x)::ps,z,vs,zd,hf,hz=>by
  simp only [zcu] at hf;split at hf
  ·rename_i ws hws;split at hf
   ·rename_i hw;simp only [Bool.and_eq_true] at hw;obtain ⟨k1,k2⟩:=h.cells hws
    obtain ⟨k5,ds,k6,k7,k8⟩:=zaT h hf (hz.set k1)
    have hi:i<zd.length:=by rw [←hz.len];simpa using hw.2
    refine ⟨by simp only [List.all_cons,k2,k5,Bool.and_self],ds,?_,k7,by simpa using k8⟩
    simp only [List.map_cons,YJ];rw [if_pos ⟨by rw [k1.len];exact Nat.eq_of_beq_eq_true hw.1,hi⟩]
    exact k6
   ·cases hf
  ·cases hf
theorem za9 {β γ:Type}{R:β→γ→Prop}{x:β}{y:γ}(h:R x y): ∀n,zg R (List.replicate n x) (List.replicate n y)
 | 0=>trivial
 | n+1=>⟨h,za9 h n⟩
def Qr (dst:Option Nat)(res:Nat)(e:Code)(sz n:Nat)(zero:List D)(ps:List (Nat×PX))(t:TS S)(K:TS S→Option α):Option α:=match VZ zero with
 | some z=>(match zcu t sz (List.replicate n z) ps with
  | some vs=>(match mkL (zdo vs) e vs with
   | some l=>(match t.av.contains res&&Nat.beq (W (S:=S) e) sz && !zW e with
    | true=>K (((t.take res).add (.row (zdo vs) e l)).putD dst (.whole t.nx []))
    | false=>none)
   | none=>none)
  | none=>none)
 | none=>none
theorem zw.mk_cl {n:Nat}{e:Code}(he:zW e=false){q:List Nat→Option (Option Nat)}{l:List (T S e)}{id:Nat}{es:List (List D)}(h1:q []=some (some id))(h2:hat H id= .row (W (S:=S) e) es true)(h3:es.length=l.length)
  (h4: ∀(i:Nat) (v:T S e),l[i]? = some v→ ∃d,es[i]? = some d∧zg (Cl H n) (en e v) d):zw H n e q l:=by
 rw [Xh he];exact .inr ⟨id,es,h1,h2,h3,h4⟩
theorem JB (h:zc fr b N ρ t s)(hd:yk N dst=true){e:Code}{sz n:Nat}{zero:List D}{ps:List (Nat×PX)}(hr:Qr dst res e sz n zero ps t K=some r):zV ρ t.nx fr b N s (.buildSlice sz n zero ps) res dst (fun t'=>K t'=some r):=by
 unfold Qr at hr;split at hr
 ·rename_i z hz;split at hr
  ·rename_i vs hf;split at hr
   ·rename_i l hl;split at hr
    ·rename_i ha;simp only [Bool.and_eq_true,Bool.not_eq_true'] at ha;obtain ⟨c1,ds,c2,c3,c4⟩:=zaT h hf (za9 (Yk hz) n)
     have hlen:ds.length=n:=by rw [c4];simp
     have hw:=Nat.eq_of_beq_eq_true ha.1.2
     have hds: ∀ {ρ':Rho} {H':zf},Ext ρ s.hp ρ' H'→ds.length=l.length∧ ∀(i:Nat) (v:T S e),l[i]? = some v→ ∃d,ds[i]? = some d∧zg (Cl H' (zdo vs)) (en e v) d:=fun hx=>ze7 (zaZ vs) hl (c3.mono fun _ _ _ q=>q.ext hx)
     obtain ⟨ρ',k1,k2,k3,k4,k5,k6,k7⟩:=h.new2 (r:=res) (sz:=sz) (es:=ds) (ob:= .row (zdo vs) e l) ha.1.1 (fun ρ' H' hx e1 e2=>zw.mk_cl ha.2 e1 (by rw [hw];exact e2) (hds hx).1 (hds hx).2)
     intro call;refine ⟨⟨.ref (b+res) 0 n,[(b+res,.row sz ds true)],[]⟩,ρ',_,?_,k1.putD hd (yA k2 k3 hlen),⟨k6,k7,fun _=>k2⟩,hr⟩
     simp only [opE,c1,if_true,List.map_map];rw [show (fun p=>(p.1,PX.ev s.ts p.2):Nat×PX→Nat×D)=fun p=>(p.1,p.2.ev s.ts) from rfl,c2];simp only [Eff.run,k5,k4,if_true]
    ·cases hr
   ·cases hr
  ·cases hr
 ·cases hr
def zeJ:PX→PX→Bool
 | .t i,.t j=>Nat.beq i j
 | .c (.int k a),.c (.int k' c)=>decide (k=k')&&decide (a=c)
 | _,_=>false
theorem zfO {x y:PX}(h:zeJ x y=true):x=y:=by
 unfold zeJ at h;split at h
 ·rw [Nat.eq_of_beq_eq_true h]
 ·simp only [Bool.and_eq_true,decide_eq_true_eq] at h;rw [h.1,h.2]
 ·cases h
def Ub (dst:Option Nat)(res:Nat)(e:Code)(sz bytes:Nat)(zero:List D)(x y:PX)(t:TS S)(K:TS S→Option α):Option α:=match scE t x,VZ zero with
 | some (.int _ n),some z=>(match t.av.contains res&&Nat.beq (W (S:=S) e) sz&&zeJ x y with
  | true=>(match mk 1 e z with
   | some v=>(mkS bytes n).bind fun p=>K (((t.take res).add (.row 1 e (List.replicate p v))).putD dst (.whole t.nx []))
   | none=>none)
  | false=>none)
 | _,_=>none
omit Sg in
theorem zcQ {β:Type}{n i:Nat}{v w:β}(h:(List.replicate n v)[i]? = some w):v=w∧i<n:=by
 rw [List.getElem?_replicate] at h;split at h
 ·cases h;exact ⟨rfl,by assumption⟩
 ·cases h
theorem zw.rep {e:Code}{q:List Nat→Option (Option Nat)}{v:T S e}{id p:Nat}{zd:List D}(h1:q []=some (some id))(h2:hat H id= .row (W (S:=S) e) (List.replicate p zd) true)(hv:zg (Cl H 1) (en e v) zd)(he:zW e=false):zw H 1 e q (List.replicate p v):=
 zw.mk_cl he h1 h2 (by simp) fun i w hw=>by
  obtain ⟨rfl,hi⟩:=zcQ hw
  exact ⟨zd,by simp [hi],hv⟩
def atN (x:Option Nat)(n:Nat):List Nat→Option (Option Nat)
 | []=>some x
 | [i]=>if i<n then some none else none
 | _=>none
theorem zw.nils {e:Code}{q:List Nat→Option (Option Nat)}{id p:Nat}(h1:q=atN (some id) p)(h2:hat H id= .row 1 (List.replicate p [.nil]) true):zw (S:=S) H 1 (.own e) q (List.replicate p []):=by
 subst h1;refine .inr ⟨id,_,rfl,h2,by simp,fun i w hw=> ?_⟩
 obtain ⟨rfl,hi⟩:=zcQ hw
 refine ⟨[.nil],by simp [hi],none,by simp [atN,hi],rfl,?_⟩
 have: ∀ {c:Code} (f:List Nat→Option (Option Nat)),f []=some none→zw (S:=S) H 1 c f []:=by
  intro c f hf
  cases c<;>exact .inl ⟨hf,rfl⟩
 exact this _ (by simp [atN,hi])
theorem VB (h:zc fr b N ρ t s)(hd:yk N dst=true){e:Code}{sz bytes:Nat}{zero:List D}{x y:PX}(hr:Ub dst res e sz bytes zero x y t K=some r):zV ρ t.nx fr b N s (.makeSlice sz bytes zero x y) res dst (fun t'=>K t'=some r):=by
 unfold Ub at hr;split at hr
 ·rename_i k n z hx hz;split at hr
  ·rename_i ha;simp only [Bool.and_eq_true] at ha;obtain ⟨⟨ha,hw⟩,hxy⟩:=ha
   have hw:=Nat.eq_of_beq_eq_true hw
   have hy:y.ev s.ts= .int k n:=by rw [←zfO hxy];exact h.sc hx
   split at hr
   ·rename_i v hv;simp only [Option.bind_eq_some_iff] at hr;obtain ⟨p,hp,hr⟩:=hr
    unfold mkS at hp;split at hp
    ·rename_i hn
     cases hp;have hv2: ∀H',zg (Cl H' 1) (en e v) zero:=fun H'=>Jq (ρ:=ρ) Nat.one_pos hv (Yk hz)
     have fin: ∀ρ',zc fr b N ρ' ((t.take res).add (.row 1 e (List.replicate n.toNat v))) ⟨s.ts,s.hp.set (b+res) (.row sz (List.replicate n.toNat zero) true)⟩→ρ' t.nx []=some (some (b+res))→hat (s.hp.set (b+res) (.row sz (List.replicate n.toNat zero) true)) (b+res)= .row sz (List.replicate n.toNat zero) true→hat s.hp (b+res)= .fresh→b+res<s.hp.length→(∀o p x,ρ o p=some x→ρ' o p=some x)→HLe s.hp (s.hp.set (b+res) (.row sz (List.replicate n.toNat zero) true)) →
       zV ρ t.nx fr b N s (.makeSlice sz bytes zero x y) res dst (fun t'=>K t'=some r):=by
      intro ρ' k1 k2 k3 k4 k5 k6 k7 call;refine ⟨⟨.ref (b+res) 0 n.toNat,[(b+res,.row sz (List.replicate n.toNat zero) true)],[]⟩,ρ',_,?_,k1.putD hd (yA k2 k3 (by simp)),⟨k6,k7,fun _=>k2⟩,hr⟩
      simp only [opE,h.sc hx,hy];rw [if_pos ⟨hn.1,trivial,hn.2⟩];simp only [Eff.run,k5,k4,if_true]
     cases ho:zW e with
     | false=>
      obtain ⟨ρ',k1,k2,k3,k4,k5,k6,k7⟩:=h.new2 (r:=res) (sz:=sz) (es:=List.replicate n.toNat zero) (ob:= .row 1 e (List.replicate n.toNat v)) ha (fun ρ' H' hx e1 e2=>zw.rep e1 (by rw [hw];exact e2) (hv2 _) ho)
      exact fin ρ' k1 k2 k3 k4 k5 k6 k7
     | true=>
      cases e with
      | own e=>
       have hz2:zero= [.nil]∧v= []:=by
        have hh:=hv2 []
        have hl:=hh.len
        rw [yT] at hl;match zero,hl,hh,hz with
        | [d],_,hh,hz=>
         simp only [VZ] at hz;split at hz
         ·rename_i w ws hw1 hw2
          cases hz
          cases hw2;simp only [mk,mkT,Vq] at hv;split at hv
          ·rename_i u hu
           cases hv
           cases d<;>cases hw1<;>first | (exact ⟨rfl,by cases hu;rfl⟩) | (cases hu)
          ·cases hv
         ·cases hz
       obtain ⟨rfl,rfl⟩:=hz2
       obtain ⟨ρ',k1,k2,k3,k4,k5,k6,k7⟩:=h.newQ2 (r:=res) (sz:=sz) (es:=List.replicate n.toNat [.nil]) (ob:= .row 1 (.own e) (List.replicate n.toNat [])) (atN (some (b+res)) n.toNat) ha
        (fun p id e=>by
         unfold atN at e;split at e
         ·cases e;exact ⟨rfl,rfl⟩
         ·split at e<;>cases e
         ·cases e)
        (fun ρ' H' hx e1 e2=>zw.nils e1 (by rw [←show sz=1 from hw.symm];exact e2))
       exact fin ρ' k1 (by rw [k2];rfl) k3 k4 k5 k6 k7
      | _=>cases ho
    ·cases hp
   ·cases hr
  ·cases hr
 ·cases hr
end
section
variable {S:Nat→Type} [Sg:Sig S] {ρ ρ':Rho} {H H':zf} {fr:Fr} {b N:Nat} {t:TS S} {s:St} {α:Type}
variable {dst:Option Nat} {res:Nat} {r:α} {K:TS S→Option α}
def Uc (dst:Option Nat)(ag:Bool)(n:Nat)(x:PX)(t:TS S)(K:TS S→Option α):Option α:=match evK t x with
 | some (.ptr o p i j)=>(match look t.hp o with
  | some (.box pn vs)=>(match p,Nat.beq i 0,part vs j n with
   | [],true,some ms=>(match YQ ag ms with
    | some v=>K (t.putD dst v)
    | none=>none)
   | _,_,_=>none)
  | some (.row _ _ _)=>rowOf t o p fun m e l=>(l[i]?).bind fun v=>match zW e with
   | true=>(match Nat.beq j 0&&Nat.beq n 1 && !ag with
    | true=>K (t.putD dst (.whole o (p ++ [i])))
    | false=>none)
   | false=>(match part [.one m e v] j n with
    | some ms=>(match YQ ag ms with
     | some w=>K (t.putD dst w)
     | none=>none)
    | none=>none)
  | none=>none)
 | _=>none
theorem run_load {id i j sz n:Nat}{es:List (List D)}{e:List D}{lv:Bool}{x:PX}(hx:x.ev s.ts= .ptr id (i*sz+j))(hj:j<sz)(h1:hat s.hp id= .row sz es lv)(h2:es[i]? = some e)(h3:j+n≤e.length){ag:Bool}{d:D}(h4:shaped ag ((e.drop j).take n)=some d)(call:zy)(q:Nat) :
  (opE call (PX.ev s.ts) q (.load ag n x)).run s.hp=some ⟨d,[],[]⟩:=by
 obtain ⟨d1,d2⟩:=zbN (i:=i) hj
 simp only [opE,hx,Eff.run,h1,d1,d2,h2,if_pos h3,h4];rfl
theorem VD (h:zc fr b N ρ t s)(hd:yk N dst=true){ag:Bool}{n:Nat}{x:PX}(hr:Uc dst ag n x t K=some r):zV ρ t.nx fr b N s (.load ag n x) res dst (fun t'=>K t'=some r):=by
 unfold Uc at hr;split at hr
 ·rename_i o p i j hx;obtain ⟨id,sz,es,c1,c2,c3,c4⟩:=h.ev hx
  split at hr
  ·rename_i vs ho;split at hr
   ·rename_i ms hi hm;split at hr
    ·rename_i v hv;obtain ⟨id',ds,k1,k2,k3,k9⟩:=h.hp _ _ ho
     rw [c1] at k1
     cases k1;rw [c2] at k2
     cases k2;obtain rfl:=Nat.eq_of_beq_eq_true hi
     obtain ⟨q1,q2⟩:=Z3 hm k3
     obtain ⟨d,q3,q4⟩:=Yq hv q1
     exact zV.quiet h hd q4 (fun call=>run_load c4 c3 c2 rfl q2 q3 call _) hr
    ·cases hr
   ·cases hr
  ·rename_i n0 e0 l0 ho;obtain ⟨m,e,l,k1,k2⟩:=h.rowOf hr
   simp only [Option.bind_eq_some_iff] at k1;obtain ⟨v,hv,k1⟩:=k1
   split at k1
   ·rename_i he;split at k1
    ·rename_i hj;simp only [Bool.and_eq_true,Bool.not_eq_true'] at hj;obtain ⟨⟨hj,hn⟩,hag⟩:=hj
     obtain rfl:=Nat.eq_of_beq_eq_true hj
     obtain rfl:=Nat.eq_of_beq_eq_true hn
     subst hag
     cases e with
     | own e=>
      obtain ⟨id',es',y,q1,q2,q3,q4,q5,q6⟩:=qT k2 hv
      simp only [List.append_nil] at q1;rw [c1] at q1
      cases q1;rw [c2] at q2
      cases q2;refine zV.quiet (d:=yN y (List.length v)) h hd ?_ (fun call=>run_load c4 c3 c2 q5 (by simp) rfl call _) k1
      have q4:ρ o (p ++ [i])=some y:=q4
      rcases q6.top with ⟨z1,z2⟩ | ⟨id2,es2,z1,z2,z3⟩
      ·have z1:ρ o (p ++ [i])=some none:=z1
       rw [q4] at z1
       cases z1;exact .inr ⟨q4,rfl⟩
      ·have z1:ρ o (p ++ [i])=some (some id2):=z1
       rw [q4] at z1
       cases z1;exact .inl ⟨id2,_,es2,q4,z2,by rw [z3];rfl⟩
     | _=>cases he
    ·cases k1
   ·rename_i he;split at k1
    ·rename_i ms hm;split at k1
     ·rename_i w hw;obtain ⟨id',es',ds,q1,q2,q3,q4,q5⟩:=k2.el he hv
      simp only [List.append_nil] at q1;rw [c1] at q1
      cases q1;rw [c2] at q2
      cases q2;obtain ⟨z1,z2⟩:=Z3 (ρ:=ρ) (H:=s.hp) hm ⟨ds,[],(List.append_nil _).symm,q5,rfl⟩
      obtain ⟨d,z3,z4⟩:=Yq hw z1
      exact zV.quiet h hd z4 (fun call=>run_load c4 c3 c2 q4 z2 z3 call _) k1
     ·cases k1
    ·cases k1
  ·cases hr
 ·cases hr
def J0 (n:Nat)(x y:PX)(t:TS S)(K:TS S→Option α):Option α:=match evK t x,Q0 t y with
 | some (.ptr o p i j),some ws=>(match Nat.beq (yr ws) n,look t.hp o with
  | true,some (.box pn vs)=>(match p,Nat.beq i 0,zdj vs j n ws with
   | [],true,some ms=>K (t.setO o (.box pn ms))
   | _,_,_=>none)
  | true,some (.row m e l)=>zcd e l p (fun e l k=>(l[i]?).bind fun v=>match zW e || !Nat.blt 0 m,zdj [.one m e v] j n ws with
    | false,some ms=>(match mk m e ms with
     | some v'=>k (List.set l i v')
     | none=>none)
    | _,_=>none) (fun l=>K (t.setO o (.row m e l)))
  | _,_=>none)
 | _,_=>none
theorem run_store {id i j sz n:Nat}{es:List (List D)}{e:List D}{x y:PX}(hx:x.ev s.ts= .ptr id (i*sz+j))(hj:j<sz)(h1:hat s.hp id= .row sz es true)(h2:es[i]? = some e)(h3:j+n≤e.length)(h4:(cellsOf (y.ev s.ts)).length=n)(h5:(cellsOf (y.ev s.ts)).all one=true)(call:zy)(q:Nat) :
  (opE call (PX.ev s.ts) q (.store n x y)).run s.hp=some ⟨.undef,[(id,.row sz (es.set i (qF e j (cellsOf (y.ev s.ts)))) true)],[]⟩:=by
 obtain ⟨d1,d2⟩:=zbN (i:=i) hj
 simp only [opE,hx,Eff.run,h1,d1,d2,h2,if_pos (And.intro h3 (And.intro h4 h5))]
theorem Xg {ws:List (Val S)}{n:Nat}(h:Nat.beq (yr ws) n=true){ds:List D}(k:VCs ρ H ws ds):ds.length=n:=by rw [k.len];exact Nat.eq_of_beq_eq_true h
theorem XZ (h:zc fr b N ρ t s){n:Nat}{x y:PX}(hr:J0 n x y t K=some r):zV ρ t.nx fr b N s (.store n x y) res none (fun t'=>K t'=some r):=by
 unfold J0 at hr;split at hr
 ·rename_i o p i j ws hx hy;obtain ⟨id,sz,es,c1,c2,c3,c4⟩:=h.ev hx
  obtain ⟨y1,y2⟩:=h.cells hy
  split at hr
  ·rename_i vs hw ho;have y3:=Xg hw y1
   split at hr
   ·rename_i ms hi hm;obtain ⟨id',ds,k1,k2,k3,k9⟩:=h.hp _ _ ho
    rw [c1] at k1
    cases k1;rw [c2] at k2
    cases k2;obtain rfl:=Nat.eq_of_beq_eq_true hi
    obtain ⟨q1,q2,q3⟩:=Zl hm k3 y1 y3
    intro call;refine ⟨_,ρ,_,run_store c4 c3 c2 rfl q2 y3 y2 call _,?_,⟨fun _ _ _ h=>h,jg (fun _ _ e=>by rw [c2] at e;cases e),fun e=>nomatch e⟩,hr⟩
    refine h.upd (es:= [ds]) (es':= [qF ds j (cellsOf (y.ev s.ts))]) c1 c2 rfl (fun hx e1 _=>⟨id,_,c1,?_,(Zl hm (k3.ext hx) (y1.ext hx) y3).1,k9⟩)
    rw [e1,q3]
   ·cases hr
  ·rename_i m e l hw ho;have y3:=Xg hw y1
   obtain ⟨e',l',back,k1,k2,k3⟩:=zas hr (h.hp _ _ ho)
   simp only [Option.bind_eq_some_iff] at k1;obtain ⟨v,hv,k1⟩:=k1
   split at k1
   ·rename_i ms he hm;simp only [Bool.or_eq_false_iff,Bool.not_eq_false'] at he;obtain ⟨he,hm0⟩:=he
    have hm0:0<m:=by simpa using hm0
    split at k1
    ·rename_i v' hv';rw [Xh he] at k2;rcases k2 with ⟨_,rfl⟩ | ⟨id',es',q1,q2,q3,q4⟩
     ·cases hv
     simp only [List.append_nil] at q1;rw [c1] at q1
     cases q1;rw [c2] at q2
     cases q2;obtain ⟨ds,q5,q6⟩:=q4 i v hv
     have hv1:VCs ρ s.hp [Val.one m e' v] ds:=⟨ds,[],(List.append_nil _).symm,q6,rfl⟩
     obtain ⟨z1,z2,z3⟩:=Zl hm hv1 y1 y3
     have hil:i<l'.length:=by
      rcases Nat.lt_or_ge i l'.length with q | q
      ·exact q
      ·rw [List.getElem?_eq_none q] at hv;cases hv
     intro call;refine ⟨_,ρ,_,run_store c4 c3 c2 q5 z2 y3 y2 call _,?_,⟨fun _ _ _ h=>h,jg (fun _ _ e=>by rw [c2] at e;cases e),fun e=>nomatch e⟩,k1⟩
     refine h.upd (es:=es) (es':=es.set i (qF ds j (cellsOf (y.ev s.ts)))) c1 c2 (by simp) (fun hx e1 e2=> ?_)
     refine (k3 _ (l'.set i v') hx.hle (by simp) (fun x id' hx' hne=>e2 _ (fun e=>by subst e;exact hne (h.inj _ _ _ _ _ hx' c1).2)) (fun x y z hx' hy' id' hz=>by subst hz;exact (h.inj _ _ _ _ _ hx' hy').2) ?_).1
     refine zw.mk_cl he (by simpa using c1) e1 (by simp [q3]) (fun k w hw'=> ?_)
     rw [List.getElem?_set] at hw';split at hw'
     ·rename_i e;subst e;simp only [hil,if_true,Option.some.injEq] at hw';subst hw';exact ⟨_,by rw [List.getElem?_set_self (by rw [q3];exact hil)],Jq hm0 hv' ((Zl hm (hv1.ext hx) (y1.ext hx) y3).1)⟩
     ·rename_i hne;obtain ⟨ds',q7,q8⟩:=q4 k w hw'
      exact ⟨ds',by rw [List.getElem?_set_ne hne];exact q7,qb hx.hle q8⟩
    ·cases k1
   ·cases k1
  ·cases hr
 ·cases hr
end
def hi? (len:Nat)(z:Int):Option Nat:=if 0≤z∧z≤len then some z.toNat else none
def cut? (len:Nat)(y z:Int):Option (Nat×Nat):=if 0≤z∧z≤len then (if 0≤y∧y≤z then some (y.toNat,z.toNat) else none) else none
theorem at?_some {α:Type}{l:List α}{z:Int}{a:α}(h:at? l z=some a):0≤z∧l[z.toNat]? = some a∧z.toNat<l.length∧z<l.length:=by
 unfold at? at h
 split at h
 ·rename_i hz;have:=(List.getElem?_eq_some_iff.1 h).1
  exact ⟨hz,h,this,by omega⟩
 ·cases h
section
variable {S:Nat→Type} [Sg:Sig S] {ρ ρ':Rho} {H H':zf} {fr:Fr} {b N:Nat} {t:TS S} {s:St} {α:Type}
variable {dst:Option Nat} {res:Nat} {r:α} {K:TS S→Option α}
theorem j3 {β:Type}{R:D→D→Prop}{c:β→List D}{l:List β}{es':List (List D)}(h:zg (zg R) (l.map c) es'){i:Nat}{a:β}(ha:l[i]? = some a): ∃e',es'[i]? = some e'∧zg R (c a) e':=by
 obtain ⟨e',h1,h2⟩:=h.get (i:=i) (a:=c a) (by rw [List.getElem?_map,ha];rfl)
 exact ⟨e',h1,h2⟩
theorem VS.lst {n:Nat}{c:Code}{l:List (T S c)}{d:D}(h:VS (S:=S) ρ H (.one n (.list c) l) d):Cl H n (.lst (W (S:=S) c) (l.map (en c))) d:=h.1
theorem VS.mk_lst {n:Nat}{c:Code}{l:List (T S c)}{d:D}(h:Cl H n (.lst (W (S:=S) c) (l.map (en c))) d):VS (S:=S) ρ H (.one n (.list c) l) d:=⟨h,trivial⟩
theorem ze2 {o id sz:Nat}{p:List Nat}(i:Nat){es:List (List D)}(h1:ρ o p=some (some id))(h2:hat H id= .row sz es true)(h3:0<sz):VS (S:=S) ρ H (.ptr o p i 0) (.ptr id (i*sz)):=⟨id,sz,es,h1,h2,h3,rfl⟩
theorem zeX {o id sz:Nat}{p:List Nat}{es:List (List D)}(off len:Nat)(h1:ρ o p=some (some id))(h2:hat H id= .row sz es true)(h3:off+len≤es.length):VS (S:=S) ρ H (.win o p off len) (.ref id off len):= .inl ⟨id,sz,es,h1,h2,h3,rfl⟩
theorem zcB {o:Nat}{p:List Nat}(h1:ρ o p=some none):VS (S:=S) ρ H (.win o p 0 0) .nil:= .inr ⟨h1,rfl,rfl,rfl⟩
theorem zjE:VS (S:=S) ρ H .nil .nil:=rfl
def J3 (dst:Option Nat)(sz:Nat)(x i:PX)(t:TS S)(K:TS S→Option α):Option α:=match scE t i,evK t x with
 | some (.int _ z),some (.one n (.list c) l)=>(match Nat.beq (W (S:=S) c) sz with
  | true=>(at? (l:List (T S c)) z).bind fun a=>K (t.putD dst (.fp n c a 0))
  | false=>none)
 | some (.int _ z),some (.whole o p)=>rowOf t o p fun n e l=>(match Nat.beq (W (S:=S) e) sz&&Nat.blt 0 sz with
  | true=>(at? l z).bind fun _=>K (t.putD dst (.ptr o p z.toNat 0))
  | false=>none)
 | some (.int _ z),some (.win o p off len)=>rowOf t o p fun n e l=>(match Nat.beq (W (S:=S) e) sz&&Nat.blt 0 sz with
  | true=>(at? ((l.drop off).take len) z).bind fun _=>K (t.putD dst (.ptr o p (off+z.toNat) 0))
  | false=>none)
 | _,_=>none
theorem zf7 {n:Nat}{c:Code}{l:List (T S c)}{d:D}{z:Int}{a:T S c}{k:IntKind}(h:Cl H n (.lst (W (S:=S) c) (l.map (en c))) d)(ha:at? l z=some a){f:PX→D}{x i:PX}(hx:f x=d)(hi:f i= .int k z)(call:zy)(q:Nat) :
  ∃d',(opE call f q (.indexAddr (W (S:=S) c) x i)).run H=some ⟨d',[],[]⟩∧Cl H n (.fptr (en c a)) d':=by
 obtain ⟨hz,hl,hlt,hlt2⟩:=at?_some ha
 rcases h.lst_cases with ⟨e1,_⟩ | ⟨es',rfl,k2⟩ | ⟨m,id,off,len,es0,rfl,rfl,k2,k3,k4,k5,k6,k7⟩
 ·have:l= []:=by simpa using e1
  subst this;simp at hl
 ·obtain ⟨e',h1,h2⟩:=j3 k2 hl
  refine ⟨.fptr e',by simp only [opE,hi,hx];rw [if_pos ⟨hz,trivial⟩,h1];rfl,?_⟩
  cases n with
  | zero=>exact h.elim
  | succ m=>exact Cl.plain rfl (Nr.mk_fptr h2)
 ·obtain ⟨e',h1,h2⟩:=j3 k5 hl
  rw [List.length_map] at k4;have hoff:z.toNat<len:=by omega
  refine ⟨.ptr id ((off+z.toNat)*W (S:=S) c),?_,?_⟩
  ·simp only [opE,hi,hx,Eff.run,k2];rw [if_pos ⟨hz,by omega,trivial⟩];rfl
  ·refine .inr (.inr (.inl ⟨_,id,off+z.toNat,0,W (S:=S) c,es0,e',rfl,rfl,k2,?_,?_,k6,?_⟩))
   ·rw [List.getElem?_take,if_pos hoff,List.getElem?_drop] at h1;exact h1
   ·simpa using h2
   ·rw [List.getElem?_take,if_pos hoff,List.getElem?_drop] at h1;exact k7 _ (List.mem_of_getElem? h1)
theorem X3 (h:zc fr b N ρ t s)(hd:yk N dst=true){sz:Nat}{x i:PX}(hr:J3 dst sz x i t K=some r):zV ρ t.nx fr b N s (.indexAddr sz x i) res dst (fun t'=>K t'=some r):=by
 unfold J3 at hr;split at hr
 ·rename_i k z n c l hi hx;split at hr
  ·rename_i hw;obtain rfl:=Nat.eq_of_beq_eq_true hw
   simp only [Option.bind_eq_some_iff] at hr;obtain ⟨a,ha,hr⟩:=hr
   intro call;obtain ⟨d',k1,k2⟩:=zf7 (f:=PX.ev s.ts) (h.ev hx).lst ha rfl (h.sc hi) call (b+res)
   exact ⟨_,ρ,_,k1,h.putD hd (show VS ρ s.hp (.fp n c a 0) d' from ⟨[],by simpa using k2⟩),⟨fun _ _ _ h=>h,fun _ _ _ h=>h,fun e=>nomatch e⟩,hr⟩
  ·cases hr
 ·rename_i k z o p hi hx;obtain ⟨n,e,l,k1,k2⟩:=h.rowOf hr
  split at k1
  ·rename_i hw;simp only [Bool.and_eq_true] at hw;obtain rfl:=Nat.eq_of_beq_eq_true hw.1
   simp only [Option.bind_eq_some_iff] at k1;obtain ⟨a,ha,k1⟩:=k1
   obtain ⟨hz,hl,hlt,hlt2⟩:=at?_some ha
   have q:=k2.top
   simp only [List.append_nil] at q;rcases q with ⟨_,rfl⟩ | ⟨id,es,q1,q2,q3⟩
   ·simp at hl
   ·rcases h.ev hx with ⟨id',sz',es',c1,c2,c3⟩ | ⟨c1,_⟩
    ·rw [q1] at c1;cases c1;rw [q2] at c2;cases c2;refine zV.quiet h hd (ze2 z.toNat q1 q2 (by simpa using hw.2)) (fun call=> ?_) k1
     simp only [opE,h.sc hi,c3,Eff.run,q2];rw [if_pos ⟨hz,by omega,trivial⟩,Nat.zero_add];rfl
    ·rw [q1] at c1;cases c1
  ·cases k1
 ·rename_i k z o p off len hi hx;obtain ⟨n,e,l,k1,k2⟩:=h.rowOf hr
  split at k1
  ·rename_i hw;simp only [Bool.and_eq_true] at hw;obtain rfl:=Nat.eq_of_beq_eq_true hw.1
   simp only [Option.bind_eq_some_iff] at k1;obtain ⟨a,ha,k1⟩:=k1
   obtain ⟨hz,hl,hlt,hlt2⟩:=at?_some ha
   have q:=k2.top
   simp only [List.append_nil] at q;rcases q with ⟨_,rfl⟩ | ⟨id,es,q1,q2,q3⟩
   ·simp at hl
   ·rcases h.ev hx with ⟨id',_,_,c1,_,_,c3⟩ | ⟨c1,_⟩
    ·rw [q1] at c1;cases c1;have hlen:z.toNat<len:=by simp at hlt;omega
     refine zV.quiet h hd (ze2 (off+z.toNat) q1 q2 (by simpa using hw.2)) (fun call=> ?_) k1
     simp only [opE,h.sc hi,c3,Eff.run,q2];rw [if_pos ⟨hz,by omega,trivial⟩];rfl
    ·rw [q1] at c1;cases c1
  ·cases k1
 ·cases hr
def zck (dst:Option Nat)(x:PX)(t:TS S)(K:TS S→Option α):Option α:=match evK t x with
 | some (.whole o p)=>rowOf t o p fun n e l=>K (t.putD dst (YE .i64 ((l.length:Nat):Int)))
 | _=>none
theorem zaC (h:zc fr b N ρ t s)(hd:yk N dst=true){x:PX}(hr:zck dst x t K=some r):zV ρ t.nx fr b N s (.len x) res dst (fun t'=>K t'=some r):=by
 unfold zck at hr;split at hr
 ·rename_i o p hx;obtain ⟨n,e,l,k1,k2⟩:=h.rowOf hr
  refine zV.quiet h hd (yF _ _) (fun call=> ?_) k1
  have q:=k2.top
  simp only [List.append_nil] at q;rcases q with ⟨q1,rfl⟩ | ⟨id,es,q1,q2,q3⟩<;>rcases h.ev hx with ⟨id',sz',es',c1,c2,c3⟩ | ⟨c1,c3⟩<;>rw [q1] at c1<;>cases c1
  ·simp only [opE,c3];rfl
  ·rw [q2] at c2;cases c2;simp only [opE,c3,q3];rfl
 ·cases hr
def zbG (dst:Option Nat)(neg:Bool)(x:PX)(t:TS S)(K:TS S→Option α):Option α:=match evK t x with
 | some (.one _ (.list c) l)=>cond (List.isEmpty (l:List (T S c))) none (K (t.putD dst (yR neg)))
 | _=>none
theorem zdS (h:zc fr b N ρ t s)(hd:yk N dst=true){neg:Bool}{x:PX}(hr:zbG dst neg x t K=some r):zV ρ t.nx fr b N s (.eqNS neg x) res dst (fun t'=>K t'=some r):=by
 unfold zbG at hr;split at hr
 ·rename_i n c l hx
  cases hl:List.isEmpty (l:List (T S c)) with
  | true=>rw [hl] at hr;cases hr
  | false=>
   rw [hl] at hr;simp only [cond_false] at hr;refine zV.quiet h hd (qc _) (fun call=> ?_) hr
   have k:Cl s.hp n (.lst (W (S:=S) c) (List.map (en c) l)) (x.ev s.ts):=(h.ev hx).1
   rcases k.lst_cases with ⟨e1,e2⟩ | ⟨es',e2,k2⟩ | ⟨k,id,off,len,es0,_,e2,_,_,e3,_⟩
   ·have:l= []:=by simpa using e1
    rw [this] at hl
    cases hl
   ·simp only [opE,e2];cases neg<;>rfl
   ·simp only [opE,e2];cases neg<;>rfl
 ·cases hr
def evO (t:TS S):Option PX→Option (Option Int)
 | none=>some none
 | some x=>match scE t x with
  | some (.int _ n)=>some (some n)
  | _=>none
def zbo (len:Nat):Option Int→Option Int→(Nat→Nat→Option α)→Option α
 | none,none,K=>K 0 len
 | none,some z,K=>(hi? len z).bind fun q=>K 0 q
 | some y,none,K=>(hi? len y).bind fun q=>K q len
 | some y,some z,K=>(cut? len y z).bind fun p=>K p.1 p.2
def slC {β:Type}(lo hi:Option Int)(a c:Nat)(l:List β):List β:=match lo,hi with
 | none,none=>l
 | none,some _=>l.take c
 | some _,none=>l.drop a
 | some _,some _=>sl l (a,c)
theorem zfx (h:zc fr b N ρ t s){x:Option PX}{z:Option Int}(hx:evO t x=some z):(x=none∧z=none) ∨ ∃y k n,x=some y∧z=some n∧y.ev s.ts= .int k n:=by
 cases x with
 | none=>cases hx;exact .inl ⟨rfl,rfl⟩
 | some y=>
  simp only [evO] at hx;split at hx
  ·rename_i k n e
   cases hx;exact .inr ⟨y,k,n,rfl,rfl,h.sc e⟩
  ·cases hx
theorem Qh (h:zc fr b N ρ t s){lo hi:Option PX}{l u:Option Int}(hl:evO t lo=some l)(hu:evO t hi=some u){len:Nat}{K:Nat→Nat→Option α}{r:α}(hr:zbo len l u K=some r) :
  ∃a c,K a c=some r∧cut len (lo.map (PX.ev s.ts)) (hi.map (PX.ev s.ts))=some (a,c)∧a≤c∧c≤len∧ ∀ {β:Type} (x:List β),x.length=len→slC l u a c x=(x.drop a).take (c-a):=by
 rcases zfx h hl with ⟨rfl,rfl⟩ | ⟨x1,k1,n1,rfl,rfl,e1⟩<;>rcases zfx h hu with ⟨rfl,rfl⟩ | ⟨x2,k2,n2,rfl,rfl,e2⟩<;>simp only [zbo,Option.bind_eq_some_iff,hi?,cut?] at hr
 ·exact ⟨0,len,hr,rfl,Nat.zero_le _,Nat.le_refl _,fun x hx=>by simp [slC,←hx]⟩
 ·obtain ⟨q,hq,hr⟩:=hr
  split at hq
  ·rename_i hz
   cases hq;refine ⟨0,n2.toNat,hr,?_,Nat.zero_le _,by omega,fun x hx=>by simp [slC]⟩
   simp only [cut,Option.map_some,Option.map_none,e2,if_pos hz,Option.bind_some]
  ·cases hq
 ·obtain ⟨q,hq,hr⟩:=hr
  split at hq
  ·rename_i hz
   cases hq;refine ⟨n1.toNat,len,hr,?_,by omega,Nat.le_refl _,fun x hx=> ?_⟩
   ·simp only [cut,Option.map_some,Option.map_none,e1,Option.bind_some,if_pos hz]
   ·simp only [slC];rw [List.take_of_length_le (by rw [List.length_drop];omega)]
  ·cases hq
 ·obtain ⟨p,hq,hr⟩:=hr
  split at hq
  ·rename_i hz;split at hq
   ·rename_i hy
    cases hq;refine ⟨n1.toNat,n2.toNat,hr,?_,by omega,by omega,fun x hx=>rfl⟩
    have e:((n2.toNat:Nat):Int)=n2:=by omega
    simp only [cut,Option.map_some,e1,e2,if_pos hz,Option.bind_some,e,if_pos hy]
   ·cases hq
  ·cases hq
def J1 (dst:Option Nat)(sz:Nat)(x:PX)(lo hi:Option PX)(t:TS S)(K:TS S→Option α):Option α:=match evO t lo,evO t hi,evK t x with
 | some l,some u,some .nil=>zbo 0 l u fun _ _=>K (t.putD dst .nil)
 | some l,some u,some (.one n (.list c) v)=>(match Nat.beq (W (S:=S) c) sz with
  | true=>zbo (List.length (v:List (T S c))) l u fun a q=>K (t.putD dst (.one n (.list c) (slC l u a q (v:List (T S c)))))
  | false=>none)
 | some l,some u,some (.whole o p)=>rowOf t o p fun n e v=>(match Nat.beq (W (S:=S) e) sz with
  | true=>zbo v.length l u fun a q=>K (t.putD dst (.win o p a (q-a)))
  | false=>none)
 | some l,some u,some (.win o p off len)=>rowOf t o p fun n e v=>(match Nat.beq (W (S:=S) e) sz with
  | true=>zbo len l u fun a q=>K (t.putD dst (.win o p (off+a) (q-a)))
  | false=>none)
 | _,_,_=>none
theorem zfM {n:Nat}{c:Code}{v:List (T S c)}{d:D}(h:Cl H n (.lst (W (S:=S) c) (v.map (en c))) d){a q:Nat}(ha:a≤q)(hq:q≤v.length){f:PX→D}{x:PX}{lo hi:Option PX}(hx:f x=d)(hc:cut v.length (lo.map f) (hi.map f)=some (a,q))(call:zy)(k:Nat) :
  ∃d',(opE call f k (.slice (W (S:=S) c) x lo hi)).run H=some ⟨d',[],[]⟩∧Cl H n (.lst (W (S:=S) c) (((v.drop a).take (q-a)).map (en c))) d':=by
 rcases h.lst_cases with ⟨e1,rfl⟩ | ⟨es',rfl,k2⟩ | ⟨m,id,off,len,es0,rfl,rfl,k2,k3,k4,k5,k6,k7⟩
 ·have:v= []:=by simpa using e1
  subst this;refine ⟨.nil,?_,by simpa using h⟩
  simp only [opE,hx];simp only [List.length_nil] at hc;rw [hc];rfl
 ·have hl:=k2.len
  rw [List.length_map] at hl;refine ⟨.lst (W (S:=S) c) ((es'.drop a).take (q-a)),?_,?_⟩
  ·simp only [opE,hx,if_true,←hl,hc];rfl
  ·cases n with
   | zero=>exact h.elim
   | succ n=>
    refine Cl.plain rfl (Nr.mk_lst ?_)
    rw [List.map_take,List.map_drop];exact (k2.drop a).take _
 ·rw [List.length_map] at k4;refine ⟨.ref id (off+a) (q-a),?_,?_⟩
  ·simp only [opE,hx,Eff.run,k2,if_true,k4,hc];rfl
  ·refine .inr (.inl ⟨_,_,id,off+a,q-a,es0,rfl,rfl,k2,by omega,?_,k6,k7⟩)
   rw [List.map_take,List.map_drop];have:=(k5.drop a).take (q-a)
   rw [List.drop_take,List.drop_drop,List.take_take,Nat.min_eq_left (by omega)] at this;exact this
theorem X0 (h:zc fr b N ρ t s)(hd:yk N dst=true){sz:Nat}{x:PX}{lo hi:Option PX}(hr:J1 dst sz x lo hi t K=some r):zV ρ t.nx fr b N s (.slice sz x lo hi) res dst (fun t'=>K t'=some r):=by
 unfold J1 at hr;split at hr
 ·rename_i l u hl hu hx;obtain ⟨a,q,k1,k2,k3,k4,_⟩:=Qh h hl hu hr
  have e:x.ev s.ts= .nil:=h.ev hx
  exact zV.quiet h hd zjE (fun call=>by simp only [opE,e,k2];rfl) k1
 ·rename_i l u n c v hl hu hx;split at hr
  ·rename_i hw;obtain rfl:=Nat.eq_of_beq_eq_true hw
   obtain ⟨a,q,k1,k2,k3,k4,k5⟩:=Qh h hl hu hr
   intro call;obtain ⟨d',z1,z2⟩:=zfM (f:=PX.ev s.ts) (h.ev hx).lst k3 k4 rfl k2 call (b+res)
   rw [k5 v rfl] at k1;exact ⟨_,ρ,_,z1,h.putD hd (VS.mk_lst z2),⟨fun _ _ _ h=>h,fun _ _ _ h=>h,fun e=>nomatch e⟩,k1⟩
  ·cases hr
 ·rename_i l u o p hl hu hx;obtain ⟨n,e,v,k1,k2⟩:=h.rowOf hr
  split at k1
  ·rename_i hw;obtain rfl:=Nat.eq_of_beq_eq_true hw
   obtain ⟨a,q,c1,c2,c3,c4,_⟩:=Qh h hl hu k1
   have q0:=k2.top
   simp only [List.append_nil] at q0;rcases q0 with ⟨q1,rfl⟩ | ⟨id,es,q1,q2,q3⟩<;>rcases h.ev hx with ⟨id',sz',es',z1,z2,z3⟩ | ⟨z1,z3⟩<;>rw [q1] at z1<;>cases z1
   ·simp only [List.length_nil] at c4 c2;obtain rfl:q=0:=by omega
    obtain rfl:a=0:=by omega
    exact zV.quiet h hd (zcB q1) (fun call=>by simp only [opE,z3,c2];rfl) c1
   ·rw [q2] at z2;cases z2;rw [←q3] at c2;exact zV.quiet h hd (zeX a (q-a) q1 q2 (by omega)) (fun call=>by simp only [opE,z3,Eff.run,q2,if_true,c2,Nat.zero_add,Option.map_some];rfl) c1
  ·cases k1
 ·rename_i l u o p off len hl hu hx;obtain ⟨n,e,v,k1,k2⟩:=h.rowOf hr
  split at k1
  ·rename_i hw;obtain rfl:=Nat.eq_of_beq_eq_true hw
   obtain ⟨a,q,c1,c2,c3,c4,_⟩:=Qh h hl hu k1
   have q0:=k2.top
   simp only [List.append_nil] at q0;rcases q0 with ⟨q1,rfl⟩ | ⟨id,es,q1,q2,q3⟩<;>rcases h.ev hx with ⟨id',_,_,z1,y1,y2,z3⟩ | ⟨z1,z2,z4,z3⟩<;>rw [q1] at z1<;>cases z1
   ·subst z4 z2
    obtain rfl:q=0:=by omega
    obtain rfl:a=0:=by omega
    exact zV.quiet h hd (zcB q1) (fun call=>by simp only [opE,z3,c2];rfl) c1
   ·rw [q2] at y1;cases y1;exact zV.quiet h hd (zeX (off+a) (q-a) q1 q2 (by omega)) (fun call=>by simp only [opE,z3,Eff.run,q2,if_true,c2];rfl) c1
  ·cases k1
 ·cases hr
def Qo (dst:Option Nat)(x:PX)(lo hi:Option PX)(t:TS S)(K:TS S→Option α):Option α:=match evO t lo,evO t hi,scE t x with
 | some l,some u,some (.str v)=>zbo v.length l u fun a q=>K (t.putD dst (zdh (slC l u a q v)))
 | _,_,_=>none
theorem Jz (h:zc fr b N ρ t s)(hd:yk N dst=true){x:PX}{lo hi:Option PX}(hr:Qo dst x lo hi t K=some r):zV ρ t.nx fr b N s (.sliceS x lo hi) res dst (fun t'=>K t'=some r):=by
 unfold Qo at hr;split at hr
 ·rename_i l u v hl hu hx;obtain ⟨a,q,k1,k2,k3,k4,k5⟩:=Qh h hl hu hr
  rw [k5 v rfl] at k1;exact zV.quiet h hd (Y7 _) (fun call=>by simp only [opE,h.sc hx,k2];rfl) k1
 ·cases hr
theorem jO (l:List Int):bytesOf (l.map fun z=> [D.int .u8 z])=some (Uy l):=by
 induction l with
 | nil=>rfl
 | cons a l ih=>simp [bytesOf,ih,Uy]
theorem Yb {R:D→D→Prop}(hR: ∀z d,R (.int .u8 z) d→d= .int .u8 z): ∀ {l:List Int} {es:List (List D)},zg (zg R) (l.map fun z=> [D.int .u8 z]) es→es=l.map fun z=> [D.int .u8 z]
 | [],[],_=>rfl
 | a::l,[d]::es,h=>by rw [hR _ _ h.1.1,Yb hR h.2];rfl
 | a::l,[]::es,h=>h.1.elim
 | a::l,(_::_::_)::es,h=>h.1.2.elim
 | [],_::_,h | _::_,[],h=>h.elim
def zbI (dst:Option Nat)(c:CK)(x:PX)(t:TS S)(K:TS S→Option α):Option α:=match c,evK t x with
 | .bytesStr,some .nil=>K (t.putD dst (zdh []))
 | .bytesStr,some (.one _ (.list (.int .u8)) l)=>K (t.putD dst (zdh (Uy l)))
 | .bytesStr,some (.whole o p)=>rowOf t o p fun n e l=>(match e,l with
  | .int .u8,l=>K (t.putD dst (zdh (Uy l)))
  | _,_=>none)
 | .strBytes,some (.one _ .str v)=>room (List.length (v:List UInt8)) 1 (K (t.putD dst (.one 1 (.list (.int .u8)) (QM v))))
 | _,_=>none
theorem zdV (h:zc fr b N ρ t s)(hd:yk N dst=true){c:CK}{x:PX}(hr:zbI dst c x t K=some r):zV ρ t.nx fr b N s (.conv c x) res dst (fun t'=>K t'=some r):=by
 unfold zbI at hr;split at hr
 ·rename_i hx;have e:x.ev s.ts= .nil:=h.ev hx
  exact zV.quiet h hd (Y7 _) (fun call=>by simp only [opE,e];rfl) hr
 ·rename_i n l hx;have k:=(h.ev hx).lst
  refine zV.quiet h hd (Y7 _) (fun call=> ?_) hr
  rcases k.lst_cases with ⟨e1,e2⟩ | ⟨es',e2,k2⟩ | ⟨m,id,off,len,es0,rfl,e2,k2,k3,k4,k5,k6,k7⟩
  ·have:l= []:=by simpa using e1
   subst this;simp only [opE,e2];rfl
  ·have:=Yb (fun z d h=>h) k2
   simp only [opE,e2,this];rw [if_pos (by rfl),jO];rfl
  ·have:=Yb (fun z d (h:Cl s.hp m _ d)=>h.sc rfl) k5
   simp only [opE,e2,Eff.run,k2];rw [if_pos ⟨by rfl,k3⟩,this,jO];rfl
 ·rename_i o p hx;obtain ⟨n,e,l,k1,k2⟩:=h.rowOf hr
  split at k1
  ·rename_i l;refine zV.quiet h hd (Y7 _) (fun call=> ?_) k1
   rcases k2 with ⟨q1,rfl⟩ | ⟨id,es,q1,q2,q3,q4⟩<;>simp only [List.append_nil] at q1<;>rcases h.ev hx with ⟨id',sz',es',c1,c2,c3⟩ | ⟨c1,c3⟩<;>rw [q1] at c1<;>cases c1
   ·simp only [opE,c3];rfl
   ·rw [q2] at c2;cases c2;have:es=l.map fun z=> [D.int .u8 z]:=Yb (fun z d (h:Cl s.hp n _ d)=>h.sc rfl) (zg.of (by simpa using q3.symm) (fun i a d ha hd'=>by
     rw [List.getElem?_map,Option.map_eq_some_iff] at ha;obtain ⟨z,hz,rfl⟩:=ha
     obtain ⟨d',h1,h2⟩:=q4 i z hz
     rw [hd'] at h1
     cases h1;exact h2))
    subst this;simp only [opE,c3,Eff.run,q2];rw [if_pos ⟨trivial,by simp⟩,List.drop_zero,List.take_of_length_le (Nat.le_refl _),jO];rfl
  ·cases k1
 ·rename_i n v hx;unfold room at hr;split at hr
  ·rename_i hl;have e:x.ev s.ts= .str v:=(show Cl s.hp n (.str v) _ from (h.ev hx).1).sc rfl
   refine zV.quiet (d:= .lst 1 (ofBytes v)) h hd (VS.mk_lst (Cl.plain rfl ?_)) (fun call=>by simp only [opE,e];rw [if_pos hl.1];rfl) hr
   have:(QM v).map (en (S:=S) (.int .u8))=ofBytes v:=by simp [QM,ofBytes,YF]
   exact this▸Nr.rfl' _
  ·cases hr
 ·cases hr
def Qp (dst:Option Nat)(x i:PX)(t:TS S)(K:TS S→Option α):Option α:=match scE t i,scE t x with
 | some (.int _ z),some (.str v)=>(at? v z).bind fun c=>K (t.putD dst (YE .u8 ((c.toNat:Nat):Int)))
 | _,_=>none
theorem JA (h:zc fr b N ρ t s)(hd:yk N dst=true){x i:PX}(hr:Qp dst x i t K=some r):zV ρ t.nx fr b N s (.indexS x i) res dst (fun t'=>K t'=some r):=by
 unfold Qp at hr;split at hr
 ·rename_i k z v hi hx;simp only [Option.bind_eq_some_iff] at hr;obtain ⟨c,hc,hr⟩:=hr
  obtain ⟨hz,hl,_⟩:=at?_some hc
  refine zV.quiet h hd (yF _ _) (fun call=> ?_) hr
  simp only [opE,h.sc hi,h.sc hx];rw [if_pos hz,hl];rfl
 ·cases hr
def Uf (dst:Option Nat)(x:PX)(t:TS S)(K:TS S→Option α):Option α:=match scE t x with
 | some (.flt f)=>zeU f (fun n=>K (t.putD dst (YE .u64 ((n:Nat):Int)))) (K (t.putD dst .undef))
 | _=>none
theorem VG (h:zc fr b N ρ t s)(hd:yk N dst=true){x:PX}(hr:Uf dst x t K=some r):zV ρ t.nx fr b N s (.bits x) res dst (fun t'=>K t'=some r):=by
 unfold Uf at hr;split at hr
 ·rename_i f hx
  cases f with
  | none=>exact zV.quiet (d:= .undef) (v:= .undef) h hd trivial (fun call=>by simp only [opE,h.sc hx];rfl) hr
  | some n=>exact zV.quiet h hd (yF _ _) (fun call=>by simp only [opE,h.sc hx];rfl) hr
 ·cases hr
end
def Arr.get {n:Nat}(a: {l:List Int // l.length=n})(z:Nat):Int:=a.1.getD z 0
def Arr.upd {n:Nat}(a: {l:List Int // l.length=n})(z:Nat)(w:Int): {l:List Int // l.length=n}:=⟨a.1.set z w,by rw [List.length_set,a.2]⟩
section
variable {S:Nat→Type} [Sg:Sig S] {ρ ρ':Rho} {H H':zf} {fr:Fr} {b N:Nat} {t:TS S} {s:St} {α:Type}
variable {dst:Option Nat} {res:Nat} {r:α} {K:TS S→Option α}
def zal (vs:List (Val S))(j len:Nat):Option ((k:IntKind)×T S (.arr len k)):=match part vs j len with
 | some [.one _ (.arr n k) a]=>if h:n=len then some ⟨k,h▸a⟩ else none
 | _=>none
theorem XW {vs:List (Val S)}{j len:Nat}{x:(k:IntKind)×T S (.arr len k)}{ds:List D}(h:zal vs j len=some x)(k:VCs ρ H vs ds):(ds.drop j).take len=x.2.1.map (fun z=>D.int x.1 z)∧j+len≤ds.length:=by
 unfold zal at h;split at h
 ·rename_i m n k' a hp;split at h
  ·rename_i e;subst e
   cases h;obtain ⟨h1,h2⟩:=Z3 hp k
   obtain ⟨d,d',e1,h3,h4⟩:=h1
   have h4:d'= []:=h4
   subst h4;rw [List.append_nil] at e1;exact ⟨by rw [e1];exact Q1 h3,h2⟩
  ·cases h
 ·cases h
def Ue (dst:Option Nat)(sz len:Nat)(x i:PX)(t:TS S)(K:TS S→Option α):Option α:=match Nat.beq sz 1,scE t i,evK t x with
 | true,some (.int _ z),some (.ptr o p i j)=>(match p,Nat.beq i 0,zh9 t o (j+len-1)&&Nat.blt 0 len with
  | [],true,true=>inr? z len (K (t.putD dst (.pa o j z.toNat len)))
  | _,_,_=>none)
 | true,some (.int _ z),some (.fp n c v j)=>(match zal [.one n c v] j len with
  | some x=>inr? z len (K (t.putD dst (.fp n (.int x.1) (Arr.get x.2 z.toNat) 0)))
  | none=>none)
 | _,_,_=>none
theorem XT {k:IntKind}{l:List Int}{z:Nat}(h:z<l.length):(l.map (fun z=>D.int k z)).drop z=D.int k (l.getD z 0)::(l.map (fun z=>D.int k z)).drop (z+1):=by
 rw [List.drop_eq_getElem_cons (by simpa using h)];simp [List.getD,h]
theorem VF (h:zc fr b N ρ t s)(hd:yk N dst=true){sz len:Nat}{x i:PX}(hr:Ue dst sz len x i t K=some r):zV ρ t.nx fr b N s (.indexAddrA sz len x i) res dst (fun t'=>K t'=some r):=by
 unfold Ue at hr;split at hr
 ·rename_i k z o p i' j hs hi hx;obtain rfl:=Nat.eq_of_beq_eq_true hs
  split at hr
  ·rename_i hi0 ho;simp only [Bool.and_eq_true] at ho;obtain rfl:=Nat.eq_of_beq_eq_true hi0
   unfold inr? at hr
   split at hr
   ·rename_i hz;obtain ⟨id,sz,es,c1,c2,c3,c4⟩:=h.ev hx
    have hl:j+len-1<sz:=h.ptrOk ho.1 c1 c2
    refine zV.quiet (d:= .ptr id (0*sz+j+z.toNat*1)) (v:= .pa o j z.toNat len) h hd ⟨id,sz,es,c1,c2,by omega,by omega,by simp⟩ (fun call=> ?_) hr
    simp only [opE,h.sc hi,c4,if_pos hz];rfl
   ·cases hr
  ·cases hr
 ·rename_i k z n c v j hs hi hx;obtain rfl:=Nat.eq_of_beq_eq_true hs
  split at hr
  ·rename_i a ha;unfold inr? at hr
   split at hr
   ·rename_i hz;obtain ⟨r',k'⟩:=(h.ev hx).fp
    have hn: ∃m,n=m+1:=by
     cases n with
     | zero=>exact k'.elim
     | succ m=>exact ⟨m,rfl⟩
    obtain ⟨m,rfl⟩:=hn
    obtain ⟨a1,a2⟩:=XW (ρ:=ρ) (H:=s.hp) ha ⟨en c v,[],(List.append_nil _).symm,Xe (qL c v),rfl⟩
    have hzl:z.toNat<a.2.1.length:=by rw [a.2.2];omega
    have e0:((en c v).drop j++r').drop z.toNat=D.int a.1 (Arr.get a.2 z.toNat)::(((en c v).drop j++r').drop (z.toNat+1)):=by
     have:(en c v).drop j=a.2.1.map (fun z=>D.int a.1 z)++((en c v).drop j).drop len:=by
      rw [←a1,List.take_append_drop]
     rw [this,List.append_assoc,List.drop_append_of_le_length (by simp;omega),List.drop_append_of_le_length (by simp;omega),XT hzl]
     rfl
    have fin: ∀d',Cl s.hp (m+1) (.fptr (((en c v).drop j++r').drop z.toNat)) d'→VS (S:=S) ρ s.hp (.fp (m+1) (.int a.1) (Arr.get a.2 z.toNat) 0) d':=fun d' hc=>⟨_,by rw [e0] at hc;exact hc⟩
    rcases qK k' with ⟨ds,e,q⟩ | ⟨m',id,i2,jj,sz,es0,e,hn,ex,h2,h3,h4,h5,h6⟩
    ·exact zV.quiet (d:= .fptr (ds.drop (z.toNat*1))) h hd (fin _ (Cl.plain rfl (Nr.mk_fptr (by rw [Nat.mul_one];exact q.drop _)))) (fun call=>by simp only [opE,h.sc hi,e,if_pos hz];rfl) hr
    ·obtain rfl:m'=m:=by omega
     have hl:=h4.len
     have hle:j+len≤(en c v).length:=a2
     rw [List.length_append,List.length_drop,List.length_drop] at hl;refine zV.quiet (d:= .ptr id (i2*sz+jj+z.toNat*1)) h hd (fin _ ?_) (fun call=>by simp only [opE,h.sc hi,ex,if_pos hz];rfl) hr
     refine .inr (.inr (.inl ⟨_,id,i2,jj+z.toNat,sz,es0,e,rfl,by rw [Nat.mul_one,Nat.add_assoc],h2,h3,?_,by omega,h6⟩))
     rw [←List.drop_drop];exact h4.drop _
   ·cases hr
  ·cases hr
 ·cases hr
def J2 (dst:Option Nat)(ag:Bool)(n:Nat)(x:PX)(t:TS S)(K:TS S→Option α):Option α:=match ag,Nat.beq n 1,evK t x with
 | false,true,some (.pa o j z len)=>(match look t.hp o with
  | some (.box pn vs)=>(match zal vs j len with
   | some a=>K (t.putD dst (YE a.1 (Arr.get a.2 z)))
   | none=>none)
  | _=>none)
 | _,_,_=>none
theorem zhp {ds:List D}{j len z:Nat}{l:List Int}{k:IntKind}(h:(ds.drop j).take len=l.map (fun z=>D.int k z))(hl:l.length=len)(hz:z<len):(ds.drop (j+z)).take 1= [D.int k (l.getD z 0)]:=by
 have h1:((ds.drop j).take len).drop z=D.int k (l.getD z 0)::(l.map (fun z=>D.int k z)).drop (z+1):=by rw [h,XT (by omega)]
 have h2:=congrArg (List.take 1) h1
 rw [List.drop_take,List.drop_drop,List.take_take,Nat.min_eq_left (by omega)] at h2;rw [h2];rfl
theorem X2 (h:zc fr b N ρ t s)(hd:yk N dst=true){ag:Bool}{n:Nat}{x:PX}(hr:J2 dst ag n x t K=some r):zV ρ t.nx fr b N s (.load ag n x) res dst (fun t'=>K t'=some r):=by
 unfold J2 at hr;split at hr
 ·rename_i o j z len hn hx;obtain rfl:=Nat.eq_of_beq_eq_true hn
  split at hr
  ·rename_i vs ho;split at hr
   ·rename_i a ha;obtain ⟨id,sz,es,c1,c2,c3,c4,c5⟩:=h.ev hx
    obtain ⟨id',ds,k1,k2,k3,k9⟩:=h.hp _ _ ho
    rw [c1] at k1
    cases k1;rw [c2] at k2
    cases k2;obtain ⟨a1,a2⟩:=XW ha k3
    exact zV.quiet h hd (yF _ _) (fun call=>run_load (i:=0) (by rw [c5,Nat.zero_mul,Nat.zero_add]) c4 c2 rfl (by omega) (by rw [zhp a1 a.2.2 c3];rfl) call _) hr
   ·cases hr
  ·cases hr
 ·cases hr
def Qn (n:Nat)(x y:PX)(t:TS S)(K:TS S→Option α):Option α:=match Nat.beq n 1,evK t x,scE t y with
 | true,some (.pa o j z len),some (.int k w)=>(match look t.hp o with
  | some (.box pn vs)=>(match zal vs j len with
   | some a=>(match decide (a.1=k),zdj vs j len [.one 1 (.arr len a.1) (Arr.upd a.2 z w)] with
    | true,some ms=>K (t.setO o (.box pn ms))
    | _,_=>none)
   | none=>none)
  | _=>none)
 | _,_,_=>none
theorem zbW {ds:List D}{j len z:Nat}{l:List Int}{k:IntKind}{w:Int}(h:(ds.drop j).take len=l.map (fun z=>D.int k z))(hl:l.length=len)(hz:z<len)(hj:j+len≤ds.length) :
  qF ds (j+z) [D.int k w]=qF ds j ((l.set z w).map (fun z=>D.int k z)):=by
 have e:ds=ds.take j++(l.map (fun z=>D.int k z)++ds.drop (j+len)):=by
  rw [←h,←List.drop_drop,List.take_append_drop,List.take_append_drop]
 have hj':(ds.take j).length=j:=by simp;omega
 generalize ds.take j=A at e hj'
 generalize ds.drop (j+len)=C at e
 subst e hj'
 have e1: ∀M:List D,M.length=len→List.take (A.length+z) (A++(M++C))=A++M.take z:=fun M hM=>by
  rw [List.take_length_add_append,List.take_append_of_le_length (by omega)]
 have e2: ∀M:List D,M.length=len→List.drop (A.length+z+1) (A++(M++C))=M.drop (z+1)++C:=fun M hM=>by
  rw [Nat.add_assoc,List.drop_length_add_append,List.drop_append_of_le_length (by omega)]
 simp only [qF,List.length_singleton,List.length_map,List.length_set];rw [e1 _ (by simpa using hl),e2 _ (by simpa using hl),List.take_left,hl,←hl,←List.length_map (f:=fun z=>D.int k z),List.drop_length_add_append,List.drop_left,List.set_eq_take_append_cons_drop,if_pos (by omega),List.map_append,List.map_cons,List.map_take,List.map_drop];simp only [List.append_assoc,List.cons_append,List.nil_append]
theorem Jy (h:zc fr b N ρ t s){n:Nat}{x y:PX}(hr:Qn n x y t K=some r):zV ρ t.nx fr b N s (.store n x y) res none (fun t'=>K t'=some r):=by
 unfold Qn at hr;split at hr
 ·rename_i o j z len k w hn hx hy;obtain rfl:=Nat.eq_of_beq_eq_true hn
  split at hr
  ·rename_i vs ho;split at hr
   ·rename_i a ha;split at hr
    ·rename_i ms hk hm;obtain rfl:=of_decide_eq_true hk
     obtain ⟨id,sz,es,c1,c2,c3,c4,c5⟩:=h.ev hx
     obtain ⟨id',ds,k1,k2,k3,k9⟩:=h.hp _ _ ho
     rw [c1] at k1
     cases k1;rw [c2] at k2
     cases k2;obtain ⟨a1,a2⟩:=XW ha k3
     have hw: ∀ {ρ':Rho} {H':zf},VCs (S:=S) ρ' H' [.one 1 (.arr len a.1) (Arr.upd a.2 z w)] ((a.2.1.set z w).map fun z=>D.int a.1 z):=fun {ρ' H'}=>
      ⟨_,[],(List.append_nil _).symm,Xe (fun d hd=>by obtain ⟨q,_,rfl⟩:=List.mem_map.mp hd;rfl),rfl⟩
     have hlen:((a.2.1.set z w).map fun z=>D.int a.1 z).length=len:=by rw [List.length_map,List.length_set,a.2.2]
     obtain ⟨q1,q2,q3⟩:=Zl hm k3 hw hlen
     intro call;have hyv:cellsOf (y.ev s.ts)= [D.int a.1 w]:=by rw [h.sc hy];rfl
     refine ⟨_,ρ,_,run_store (i:=0) (by rw [c5,Nat.zero_mul,Nat.zero_add]) c4 c2 rfl (by omega) (by rw [hyv];rfl) (by rw [hyv];rfl) call _,?_,⟨fun _ _ _ h=>h,jg (fun _ _ e=>by rw [c2] at e;cases e),fun e=>nomatch e⟩,hr⟩
     refine h.upd (es:= [ds]) (es':= [qF ds (j+z) (cellsOf (y.ev s.ts))]) c1 c2 rfl (fun hx e1 _=>⟨id,_,c1,by rw [e1,q3],?_⟩)
     have q4:=(Zl hm (k3.ext hx) hw hlen).1
     rw [←zbW a1 a.2.2 c3 a2,←hyv] at q4;exact ⟨q4,k9⟩
    ·cases hr
   ·cases hr
  ·cases hr
 ·cases hr
def zhn:List (Val S)→Option IntKind
 | .one _ (.int k) _::_=>some k
 | .one _ (.arr _ k) _::_=>some k
 | _=>none
def Ud (dst:Option Nat)(ag:Bool)(sz len:Nat)(x i:PX)(t:TS S)(K:TS S→Option α):Option α:=match ag,Nat.beq sz 1,scE t i,zdr t x with
 | false,true,some (.int _ z),some vs=>(match zhn vs with
  | some k=>(match mk 12 (.arr len k) vs with
   | some a=>inr? z len (K (t.putD dst (YE k (Arr.get a z.toNat))))
   | none=>none)
  | none=>none)
 | _,_,_,_=>none
theorem VE (h:zc fr b N ρ t s)(hd:yk N dst=true){ag:Bool}{sz len:Nat}{x i:PX}(hr:Ud dst ag sz len x i t K=some r):zV ρ t.nx fr b N s (.index ag sz len x i) res dst (fun t'=>K t'=some r):=by
 unfold Ud at hr;split at hr
 ·rename_i k0 z vs hs hi hx;obtain rfl:=Nat.eq_of_beq_eq_true hs
  split at hr
  ·rename_i k hk;split at hr
   ·rename_i a ha;unfold inr? at hr
    split at hr
    ·rename_i hz;obtain ⟨ds,e,k1⟩:=h.agg hx
     have k2:ds=a.1.map fun z=>D.int k z:=Q1 (Jq (by omega) ha k1)
     subst k2;refine zV.quiet h hd (yF _ _) (fun call=> ?_) hr
     simp only [opE,h.sc hi,e];rw [if_pos ⟨hz.1,hz.2,by rw [List.length_map,a.2];omega⟩,Nat.mul_one,XT (by rw [a.2];omega)]
     rfl
    ·cases hr
   ·cases hr
  ·cases hr
 ·cases hr
end
section
variable {S:Nat→Type} [Sg:Sig S] {ρ ρ':Rho} {H H':zf} {fr:Fr} {b N:Nat} {t:TS S} {s:St} {α:Type}
variable {dst:Option Nat} {res:Nat} {r:α} {K:TS S→Option α}
def Y6 (c e:Code)(l:List (T S c)):Option (List (T S e)):=conv (.list c) (.list e) l
theorem zlp {c e:Code}(h:c.sim e=true):W (S:=S) c=W (S:=S) e:=(Xw (S:=S) Sg.Dd Sg.wd h).2.1
theorem yU {c e:Code}{l:List (T S c)}{m:List (T S e)}(h:Y6 c e l=some m):W (S:=S) c=W (S:=S) e∧m.map (en e)=l.map (en c)∧m.length=l.length:=by
 have hs:c.sim e=true:=by
  unfold Y6 conv at h;split at h
  ·assumption
  ·cases h
 obtain ⟨h1,_⟩:=jJ h
 have h3:W (S:=S) c=W (S:=S) e:=zlp hs
 simp only [YF] at h1;have h2:m.map (en e)=l.map (en c):=by
  injection h1 with h1 _;injection h1 with _ h1
 exact ⟨h3,h2,by have:=congrArg List.length h2;simpa using this⟩
def zdi (t:TS S)(e:Code)(y:PX)(K:Nat→List (T S e)→Option α):Option α:=match evK t y with
 | some .nil=>K 1 []
 | some (.one n (.list c) l)=>(match Y6 c e (l:List (T S c)) with
  | some m=>K n m
  | none=>none)
 | some (.one _ .str v)=>(match e,K with
  | .int .u8,K=>K 1 (QM v)
  | _,_=>none)
 | some (.whole o p)=>rowOf t o p fun n c l=>(match zW c,Y6 c e l with
  | false,some m=>K n m
  | _,_=>none)
 | some (.win o p off len)=>rowOf t o p fun n c l=>(match zW c,Y6 c e l with
  | false,some m=>K n ((m.drop off).take len)
  | _,_=>none)
 | _=>none
def Els (H:zf)(n:Nat)(e:Code)(m:List (T S e))(src:List (List D)):Prop:=src.length=m.length∧ ∀(i:Nat) (v:T S e),m[i]? = some v→ ∃d,src[i]? = some d∧zg (Cl H n) (en e v) d
theorem Els.of_map {n:Nat}{e:Code}{m:List (T S e)}{src:List (List D)}(h:zg (zg (Cl H n)) (m.map (en e)) src):Els H n e m src:=by
 refine ⟨by have:=h.len;simpa using this.symm,fun i v hv=>j3 h hv⟩
theorem Els.mono {n n':Nat}(hn:n≤n')(hh:HLe H H'){e:Code}{m:List (T S e)}{src:List (List D)}(h:Els H n e m src):Els H' n' e m src:=
 ⟨h.1,fun i v hv=>let ⟨d,h1,h2⟩:=h.2 i v hv; ⟨d,h1,(qb hh h2).mono fun _ _ _ q=>q.up hn⟩⟩
theorem Els.app {n:Nat}{e:Code}{m m':List (T S e)}{src src':List (List D)}(h:Els H n e m src)(h':Els H n e m' src'):Els H n e (m++m') (src++src'):=by
 refine ⟨by rw [List.length_append,List.length_append,h.1,h'.1],fun i v hv=> ?_⟩
 rcases Nat.lt_or_ge i m.length with q | q
 ·rw [List.getElem?_append_left q] at hv;obtain ⟨d,h1,h2⟩:=h.2 i v hv
  exact ⟨d,by rw [List.getElem?_append_left (by rw [h.1];exact q)];exact h1,h2⟩
 ·rw [List.getElem?_append_right q] at hv;obtain ⟨d,h1,h2⟩:=h'.2 _ v hv
  exact ⟨d,by rw [List.getElem?_append_right (by rw [h.1];exact q),h.1];exact h1,h2⟩
theorem Els.take {n:Nat}{e:Code}{m:List (T S e)}{src:List (List D)}(h:Els H n e m src)(k:Nat):Els H n e (m.take k) (src.take k):=by
 refine ⟨by rw [List.length_take,List.length_take,h.1],fun i v hv=> ?_⟩
 rw [List.getElem?_take] at hv ⊢
 split at hv
 ·rename_i hk;obtain ⟨d,h1,h2⟩:=h.2 i v hv
  exact ⟨d,by rw [if_pos hk];exact h1,h2⟩
 ·cases hv
theorem Els.drop {n:Nat}{e:Code}{m:List (T S e)}{src:List (List D)}(h:Els H n e m src)(k:Nat):Els H n e (m.drop k) (src.drop k):=by
 refine ⟨by rw [List.length_drop,List.length_drop,h.1],fun i v hv=> ?_⟩
 rw [List.getElem?_drop] at hv;obtain ⟨d,h1,h2⟩:=h.2 _ v hv
 exact ⟨d,by rw [List.getElem?_drop];exact h1,h2⟩
theorem Els.conv {n:Nat}{c e:Code}{l:List (T S c)}{m:List (T S e)}{src:List (List D)}(h:Els H n c l src)(hc:Y6 c e l=some m):Els H n e m src:=by
 obtain ⟨h1,h2,h3⟩:=yU hc
 refine ⟨by rw [h3,h.1],fun i v hv=> ?_⟩
 have h4:=congrArg (fun x=>x[i]?) h2
 simp only [List.getElem?_map,hv,Option.map_some] at h4
 cases hw:l[i]? with
 | none=>rw [hw] at h4;cases h4
 | some w=>
  rw [hw] at h4;injection h4 with h4;obtain ⟨d,h5,h6⟩:=h.2 i w hw
  exact ⟨d,h5,by rw [h4];exact h6⟩
theorem zw.els {n:Nat}{e:Code}(he:zW e=false){q:List Nat→Option (Option Nat)}{l:List (T S e)}(h:zw H n e q l):(q []=some none∧l= []) ∨ ∃id es,q []=some (some id)∧hat H id= .row (W (S:=S) e) es true∧Els H n e l es:=by
 rw [Xh he] at h;rcases h with h | ⟨id,es,h1,h2,h3,h4⟩
 ·exact .inl h
 ·exact .inr ⟨id,es,h1,h2,h3,h4⟩
theorem zw.of_els {n:Nat}{e:Code}(he:zW e=false){q:List Nat→Option (Option Nat)}{l:List (T S e)}{id:Nat}{es:List (List D)}(h1:q []=some (some id))(h2:hat H id= .row (W (S:=S) e) es true)(h3:Els H n e l es):zw H n e q l:=
 zw.mk_cl he h1 h2 h3.1 h3.2
theorem zw.of_nil {n:Nat}{e:Code}{q:List Nat→Option (Option Nat)}(h:q []=some none):zw (S:=S) H n e q []:=by
 cases e<;>exact .inl ⟨h,rfl⟩
theorem JU (h:zc fr b N ρ t s){e:Code}{y:PX}{K:Nat→List (T S e)→Option α}{r:α}(hr:zdi t e y K=some r) :
  ∃n m src,K n m=some r∧(source (W (S:=S) e) (y.ev s.ts)).run s.hp=some src∧Els s.hp n e m src:=by
 unfold zdi at hr;split at hr
 ·rename_i hy;have e1:y.ev s.ts= .nil:=h.ev hy
  exact ⟨1,[],[],hr,by rw [e1];rfl,rfl,fun i v hv=>by cases hv⟩
 ·rename_i n c l hy;split at hr
  ·rename_i m hm;obtain ⟨w1,w2,w3⟩:=yU hm
   have k:=(h.ev hy).lst
   rw [←w2,w1] at k;rcases k.lst_cases with ⟨e1,e2⟩ | ⟨es',e2,k2⟩ | ⟨j,id,off,len,es0,hn,e2,k2,k3,k4,k5,k6,k7⟩
   ·have:m= []:=by simpa using e1
    subst this;exact ⟨n,[],[],hr,by rw [e2];rfl,rfl,fun i v hv=>by cases hv⟩
   ·refine ⟨n,m,es',hr,by rw [e2];simp only [source,true_or,if_true,Eff.run],Els.of_map ?_⟩
    have hn: ∃j,n=j+1:=by
     cases n with
     | zero=>exact k.elim
     | succ j=>exact ⟨j,rfl⟩
    obtain ⟨j,rfl⟩:=hn
    exact k2.mono fun cs ds hcs q=>by
     obtain ⟨v,_,rfl⟩:=List.mem_map.mp hcs
     exact q.mono fun a d ha z=>by
      have hc:=qL e v a ha
      refine Cl.plain ?_ z
      cases a with
      | lst sz es=>rcases z with ⟨_,rfl⟩ | ⟨_,rfl,_⟩<;>rfl
      | int _ _=>rw [show d=_ from z];rfl
      | bool _=>rw [show d=_ from z];rfl
      | flt _=>rw [show d=_ from z];rfl
      | str _=>rw [show d=_ from z];rfl
      | _=>cases hc
   ·refine ⟨n,m,(es0.drop off).take len,hr,?_,Els.of_map (k5.mono fun _ _ _ q=>q.mono fun _ _ _ q=>q.up (by omega))⟩
    rw [e2];simp only [source,Eff.run,k2];rw [if_pos ⟨trivial,k3⟩];rfl
  ·cases hr
 ·rename_i n v hy;split at hr
  ·rename_i K' _;have e1:y.ev s.ts= .str v:=(show Cl s.hp n (.str v) _ from (h.ev hy).1).sc rfl
   refine ⟨1,QM v,ofBytes v,hr,by rw [e1];rfl,Els.of_map ?_⟩
   have:(QM v).map (en (S:=S) (.int .u8))=ofBytes v:=by simp [QM,ofBytes,YF]
   rw [this];have: ∀l:List UInt8,zg (zg (Cl s.hp 1)) (ofBytes l) (ofBytes l):=by
    intro l;induction l with
    | nil=>trivial
    | cons a l ih=>exact ⟨⟨Cl.plain rfl rfl,trivial⟩,ih⟩
   exact this v
  ·cases hr
 ·rename_i o p hy;obtain ⟨n,c,l,k1,k2⟩:=h.rowOf hr
  split at k1
  ·rename_i m hc hm;have w1:=(yU hm).1
   have w3:=(yU hm).2.2
   rcases k2.els hc with ⟨q1,rfl⟩ | ⟨id,es,q1,q2,q3⟩<;>simp only [List.append_nil] at q1<;>rcases h.ev hy with ⟨id',sz',es',c1,c2,c3⟩ | ⟨c1,c3⟩<;>rw [q1] at c1<;>cases c1
   ·have:m= []:=by simpa using w3
    subst this;exact ⟨n,[],[],k1,by rw [c3];rfl,rfl,fun i v hv=>by cases hv⟩
   ·rw [q2] at c2;cases c2;refine ⟨n,m,es,k1,?_,q3.conv hm⟩
    rw [c3];simp only [source,Eff.run,q2];rw [if_pos ⟨w1,by simp⟩,List.drop_zero,List.take_of_length_le (Nat.le_refl _)];rfl
  ·cases k1
 ·rename_i o p off len hy;obtain ⟨n,c,l,k1,k2⟩:=h.rowOf hr
  split at k1
  ·rename_i m hc hm;have w1:=(yU hm).1
   have w3:=(yU hm).2.2
   rcases k2.els hc with ⟨q1,rfl⟩ | ⟨id,es,q1,q2,q3⟩<;>simp only [List.append_nil] at q1<;>rcases h.ev hy with ⟨id',sz',es',c1,c2,c3,c4⟩ | ⟨c1,c2,c5,c3⟩<;>rw [q1] at c1<;>cases c1
   ·have:m= []:=by simpa using w3
    subst this c2 c5
    exact ⟨n,[],[],k1,by rw [c3];rfl,rfl,fun i v hv=>by cases hv⟩
   ·rw [q2] at c2;cases c2;refine ⟨n,(m.drop off).take len,(es.drop off).take len,k1,?_,((q3.conv hm).drop off).take len⟩
    rw [c4];simp only [source,Eff.run,q2];rw [if_pos ⟨w1,c3⟩];rfl
  ·cases k1
 ·cases hr
def mx (a b:Nat):Nat:=match Nat.ble a b with
 | true=>b
 | false=>a
theorem qQ (a b:Nat):a≤mx a b∧b≤mx a b:=by
 unfold mx;split
 ·rename_i h;exact ⟨Nat.le_of_ble_eq_true h,Nat.le_refl _⟩
 ·rename_i h;refine ⟨Nat.le_refl _,Nat.le_of_lt (Nat.lt_of_not_le fun k=> ?_)⟩
  rw [Nat.ble_eq_true_of_le k] at h
  cases h
def TS.addAt (t:TS S)(o:Nat)(ob:Obj S):TS S:= { t with hp:=(o,ob)::t.hp,nx:=mx t.nx (o+1) }
theorem zc.addAt (h:zc fr b N ρ t s){o:Nat}(hfree: ∀p,ρ o p=none){q:List Nat→Option (Option Nat)}{ob:Obj S}(hq1: ∀p p' id,q p=some (some id)→q p'=some (some id)→p=p')
  (hq2: ∀p id,q p=some (some id)→(∀o p',ρ o p'≠some (some id))∧fr id=none∧ ∃sz es,hat s.hp id= .row sz es true)
  (hob:Ext ρ s.hp (ins ρ o q) s.hp→qn fr (ins ρ o q) s.hp o ob):zc fr b N (ins ρ o q) (t.addAt o ob) s∧Ext ρ s.hp (ins ρ o q) s.hp:=by
 have hx:Ext ρ s.hp (ins ρ o q) s.hp:=⟨HLe.refl _,fun o' p x hx=>by
  rw [qv (fun e=>by subst e;rw [hfree] at hx;cases hx)]
  exact hx,fun o p id sz es _ he=>⟨es,he,rfl⟩⟩
 refine ⟨⟨h.len,fun i v hv=>(h.sl i v hv).ext hx,fun o' ob' ho=> ?_,fun o p o' p' id h1 h2=> ?_,fun o p id h1=> ?_,fun o' p ho=> ?_,h.frm,h.avl⟩,hx⟩
 ·simp only [TS.addAt,look] at ho;split at ho
  ·rename_i e
   cases ho;obtain rfl:=Nat.eq_of_beq_eq_true e
   exact hob hx
  ·exact qn.ext hx (fun p id _=>rfl) (h.hp _ _ ho)
 ·simp only [ins] at h1 h2;split at h1<;>split at h2
  ·rename_i e1 e2;subst e1 e2;exact ⟨rfl,hq1 _ _ _ h1 h2⟩
  ·exact absurd h2 ((hq2 _ _ h1).1 _ _)
  ·exact absurd h1 ((hq2 _ _ h2).1 _ _)
  ·exact h.inj _ _ _ _ _ h1 h2
 ·simp only [ins] at h1;split at h1
  ·exact (hq2 _ _ h1).2
  ·exact h.liv _ _ _ h1
 ·have ho:mx t.nx (o+1)≤o':=ho
  have:=qQ t.nx (o+1)
  rw [qv (by omega)];exact h.nxt _ _ (by omega)
theorem zc.kill (h:zc fr b N ρ t s){id sz:Nat}{es:List (List D)}(k:Blk)(h1:hat s.hp id= .row sz es true)(h2: ∀o p,ρ o p≠some (some id))(h3:fr id=none):zc fr b N ρ t ⟨s.ts,s.hp.set id k⟩∧Ext ρ s.hp ρ (s.hp.set id k):=by
 have hlt:id<s.hp.length:=yB (by rw [h1];simp)
 have hne: ∀j,j≠id→hat (s.hp.set id k) j=hat s.hp j:=fun j hj=>by rw [zp hlt,if_neg hj]
 have hx:Ext ρ s.hp ρ (s.hp.set id k):=⟨jg (fun _ _ e=>by rw [h1] at e;cases e),fun _ _ _ h=>h,fun o p id' sz' es' k1 k2=>⟨es',by rw [hne _ (fun e=>by subst e;exact h2 _ _ k1)];exact k2,rfl⟩⟩
 refine ⟨⟨h.len,fun i v hv=>(h.sl i v hv).ext hx,fun o ob ho=>qn.ext hx (fun p id' k'=>hne _ (fun e=>by subst e;exact h2 _ _ k')) (h.hp _ _ ho),h.inj,fun o p id' k'=> ?_,h.nxt,fun id' k' hk=> ?_,?_⟩,hx⟩
 ·obtain ⟨q1,sz',es',q2⟩:=h.liv _ _ _ k'
  exact ⟨q1,sz',es',by rw [hne _ (fun e=>by subst e;exact h2 _ _ k')];exact q2⟩
 ·obtain ⟨q1,q2⟩:=h.frm _ _ hk
  exact ⟨by rw [hne _ (fun e=>by subst e;rw [h3] at hk;cases hk)];exact q1,by simpa using q2⟩
 ·refine ⟨h.avl.1,fun r hr=> ?_⟩
  obtain ⟨q1,q2,q3⟩:=h.avl.2 r hr
  exact ⟨by rw [hne _ (fun e=>by rw [e,h1] at q1;cases q1)];exact q1,by simpa using q2,q3⟩
theorem zc.takeR (h:zc fr b N ρ t s)(r:Nat):zc fr b N ρ (t.take r) s:=
 ⟨h.len,h.sl,h.hp,h.inj,h.liv,h.nxt,h.frm,h.avl.1.erase r,fun r' hr'=>h.avl.2 r' (List.mem_of_mem_erase hr')⟩
theorem Z9 (o:Nat)(p:List Nat):del ρ o o p=none:=by simp [del,yc,isO]
end
section
variable {S:Nat→Type} [Sg:Sig S] {ρ ρ':Rho} {H H':zf} {fr:Fr} {b N:Nat} {t:TS S} {s:St} {α:Type}
variable {dst:Option Nat} {res:Nat} {r:α} {K:TS S→Option α}
theorem HLe.tr {H H' H'':zf}(h:HLe H H')(k:HLe H' H''):HLe H H'':=fun id sz es q=>k id sz es (h id sz es q)
def TPd (ρ ρ':Rho)(H':zf):Prop:= ∀o id,ρ o []=some (some id)→ρ' o []=some (some id)∨hat H' id= .dead
omit Sg in
theorem TPd.ins {o:Nat}{q:List Nat→Option (Option Nat)}(h: ∀id,ρ o []=some (some id)→q []=some (some id)∨hat H' id= .dead):TPd ρ (Pi.ins (del ρ o) o q) H':=fun o' id e=>by
 by_cases eo:o'=o
 ·subst eo;rw [zF];exact h id e
 ·rw [qv eo,QX eo];exact .inl e
def Mv (wo:List Nat)(ρ ρ':Rho):Prop:= ∀o p x,wo.contains o=false→ρ o p=some x→ρ' o p=some x
omit Sg in
theorem Mv.ins {o:Nat}{q:List Nat→Option (Option Nat)}{wo:List Nat}(hw:wo.contains o=true):Mv wo ρ (Pi.ins (del ρ o) o q):=fun o' p x h1 h2=>by
 have hne:o'≠o:=fun e=>by subst e;rw [hw] at h1;cases h1
 rw [qv hne,QX hne];exact h2
omit Sg in
theorem Mv.insC {o:Nat}{P:Nat→List Nat→Bool}{q:List Nat→Option (Option Nat)}{wo:List Nat}(hw:wo.contains o=true)(hP: ∀r p,P r p=true→wo.contains r=true):Mv wo ρ (Pi.ins (yc ρ P) o q):=fun o' p x h1 h2=>by
 have hne:o'≠o:=fun e=>by subst e;rw [hw] at h1;cases h1
 rw [qv hne,y5]
 ·exact h2
 ·cases e:P o' p with
  | false=>rfl
  | true=>rw [hP _ _ e] at h1;cases h1
def zi0 (wo:List Nat)(ρ:Rho)(fr:Fr)(b N:Nat)(s:St)(op:POp)(res:Nat)(dst:Option Nat)(P:TS S→Prop):Prop:=
 ∀call:zy, ∃out ρ' t',(opE call (PX.ev s.ts) (b+res) op).run s.hp=some out∧zc fr b N ρ' t' ⟨yh s.ts dst out.d,out.on s.hp⟩∧Mv wo ρ ρ'∧P t'
theorem zi0.got {wo:List Nat}{op:POp}{P:TS S→Prop}(h:zi0 wo ρ fr b N s op res dst P):Got fr b N s op res dst P:=fun call=>
 let ⟨out,ρ',t',h1,h2,_,h3⟩:=h call
 ⟨out,ρ',t',h1,h2,h3⟩
def zle (nx:Nat)(wo:List Nat)(ρ':Rho)(ws:List (Nat×Blk)):Prop:= ∀w∈ws,w.2= .dead ∨ ∃o,(wo.contains o=true∨(wo= []∧o=nx))∧ρ' o []=some (some w.1)
def ziZ (nx:Nat)(wo:List Nat)(ρ:Rho)(fr:Fr)(b N:Nat)(s:St)(op:POp)(res:Nat)(dst:Option Nat)(P:TS S→Prop):Prop:=
 ∀call:zy, ∃out ρ' t',(opE call (PX.ev s.ts) (b+res) op).run s.hp=some out∧zc fr b N ρ' t' ⟨yh s.ts dst out.d,out.on s.hp⟩∧(Mv wo ρ ρ'∧zle nx wo ρ' out.ws∧TPd ρ ρ' (out.on s.hp))∧P t'
theorem ziZ.gotM {nx:Nat}{wo:List Nat}{op:POp}{P:TS S→Prop}(h:ziZ nx wo ρ fr b N s op res dst P):zi0 wo ρ fr b N s op res dst P:=fun call=>
 let ⟨out,ρ',t',h1,h2,h4,h3⟩:=h call
 ⟨out,ρ',t',h1,h2,h4.1,h3⟩
def QO:Val S→Option Nat
 | .whole o _=>some o
 | .win o _ _ _=>some o
 | _=>none
theorem zc.moved (h:zc fr b N ρ t s){o id sz0 sz q:Nat}{es0 es':List (List D)}{ob:Obj S}{p:List Nat}(h1:ρ o p=some (some id))(h2:hat s.hp id= .row sz0 es0 true)(hq:t.av.contains q=true)
  (hob: ∀ρ' H',HLe s.hp H'→ρ' o []=some (some (b+q))→hat H' (b+q)= .row sz es' true→qn fr ρ' H' o ob) :
  ∃ρ',zc fr b N ρ' (((t.forget o).take q).addAt o ob) ⟨s.ts,(s.hp.set id .dead).set (b+q) (.row sz es' true)⟩∧ρ' o []=some (some (b+q))∧hat ((s.hp.set id .dead).set (b+q) (.row sz es' true)) (b+q)= .row sz es' true∧hat s.hp (b+q)= .fresh∧b+q<s.hp.length∧(∀wo:List Nat,wo.contains o=true→Mv wo ρ ρ')∧(p= []→TPd ρ ρ' ((s.hp.set id .dead).set (b+q) (.row sz es' true))):=by
 have hid: ∀o' p',del ρ o o' p'≠some (some id):=fun o' p' e=>by
  obtain ⟨k1,k2⟩:=qA e
  exact k1 (h.inj _ _ _ _ _ k2 h1).1
 obtain ⟨k1,k2⟩:=(h.forget o).kill .dead h2 hid (h.liv _ _ _ h1).1
 obtain ⟨k3,k4,k5,k6,k7,k8,k9⟩:=k1.fresh (r:=q) (sz:=sz) (es:=es') hq
 obtain ⟨k10,k11⟩:=k3.addAt (o:=o) (fun p=>Z9 o p) (q:=at0 (some (b+q))) (ob:=ob) (fun p p' id e1 e2=>by rw [(zR e1).1,(zR e2).1]) (fun p id e=>by
  obtain ⟨rfl,e⟩:=zR e
  cases e;exact ⟨k6,k7,sz,es',k5⟩) (fun hx=>hob _ _ (k2.hle.tr k4.hle) (by rw [zF];rfl) k5)
 have hm:q∈t.av:=by simpa using hq
 obtain ⟨f1,f2,_⟩:=h.avl.2 q hm
 refine ⟨_,k10,by rw [zF];rfl,k5,f1,f2,fun _ hw=>Mv.ins hw,fun hp=>TPd.ins fun id' e=> .inr ?_⟩
 subst hp;rw [h1] at e
 cases e;have hlt:id<s.hp.length:=yB (by rw [h2];simp)
 have hne:id≠b+q:=fun e=>by rw [←e,h2] at f1;cases f1
 rw [zp (by simpa using f2),if_neg hne,zp hlt,if_pos rfl]
theorem zc.again (h:zc fr b N ρ t s){o q:Nat}{x:Option Nat}{ob:Obj S}{p:List Nat}(h1:ρ o p=some x)(hob: ∀ρ',ρ' o []=some x→qn fr ρ' s.hp o ob) :
  ∃ρ',zc fr b N ρ' (((t.forget o).take q).addAt o ob) s∧ρ' o []=some x∧(∀wo:List Nat,wo.contains o=true→Mv wo ρ ρ')∧(p= []→TPd ρ ρ' s.hp):=by
 have k1:=(h.forget o).takeR q
 obtain ⟨k2,_⟩:=k1.addAt (o:=o) (fun p=>Z9 o p) (q:=at0 x) (ob:=ob) (fun p p' id e1 e2=>by rw [(zR e1).1,(zR e2).1]) (fun p id e=>by
  obtain ⟨rfl,e2⟩:=zR e
  subst e2;refine ⟨fun o' p' e'=> ?_,h.liv _ _ _ h1⟩
  obtain ⟨z1,z2⟩:=qA e'
  exact z1 (h.inj _ _ _ _ _ z2 h1).1) (fun hx=>hob _ (by rw [zF];rfl))
 refine ⟨_,k2,by rw [zF];rfl,fun _ hw=>Mv.ins hw,fun hp=>TPd.ins fun id' e=> .inl ?_⟩
 subst hp;rw [h1] at e
 cases e;rfl
theorem zc.newN (h:zc fr b N ρ t s){q:Nat}{ob:Obj S}(hob: ∀ρ',ρ' t.nx []=some none→qn fr ρ' s.hp t.nx ob): ∃ρ',zc fr b N ρ' ((t.take q).add ob) s∧ρ' t.nx []=some none∧ ∀wo,Mv wo ρ ρ':=by
 refine ⟨_,(h.takeR q).addObj (q:=at0 none) (fun p p' id e=> ?_) (fun p id e=> ?_) (fun hx=>hob _ (by rw [show (t.take q).nx=t.nx from rfl,zF];rfl)),by rw [show (t.take q).nx=t.nx from rfl,zF];rfl,fun wo o p x _ hx=>by
  rw [qv (fun e=>by subst e;rw [show (t.take q).nx=t.nx from rfl,h.nxt _ _ (Nat.le_refl _)] at hx;cases hx)]
  exact hx⟩
 ·cases (zR e).2
 ·cases (zR e).2
theorem zc.unnest (h:zc fr b N ρ t s){o:Nat}{x:Option Nat}{ob:Obj S}{p:List Nat}(q:List Nat→Option (Option Nat))(hq: ∀p' y,q p'=some y→ρ o (p++p')=some y)(hob: ∀ρ',(∀p' y,ρ o (p++p')=some y→True)→(∀p',ρ' o p'=q p')→qn fr ρ' s.hp o ob) :
  zc fr b N (ins (del ρ o) o q) ((t.forget o).addAt o ob) s:=by
 have k1:=h.forget o
 obtain ⟨k2,_⟩:=k1.addAt (o:=o) (fun p=>Z9 o p) (q:=q) (ob:=ob) (fun p1 p2 id e1 e2=>by
  have:=(h.inj _ _ _ _ _ (hq _ _ e1) (hq _ _ e2)).2
  exact List.append_cancel_left this) (fun p1 id e=>by
  refine ⟨fun o' p' e'=> ?_,h.liv _ _ _ (hq _ _ e)⟩
  obtain ⟨z1,z2⟩:=qA e'
  exact z1 (h.inj _ _ _ _ _ z2 (hq _ _ e)).1) (fun hx=>hob _ (fun _ _ _=>trivial) (fun p'=>by rw [zF]))
 exact k2
theorem zU {call:zy}{f:PX→D}{q sz bytes:Nat}{x y:PX}{src:List (List D)}(hs:(source sz (f y)).run H=some src) :
  (opE call f q (.append sz bytes x y)).run H=(if src.isEmpty then
   (match f x with
   | .nil=>quiet .nil
   | .ref id off len=>quiet (.ref id off len)
   | .lst s es=>quiet (.lst s es)
   | _=> .fail)
  else
   (match f x with
   | .nil=>if src.length≤roomy∧src.length*bytes≤roomy then .new q (.pure ⟨.ref q 0 src.length,[(q,.row sz src true)],[]⟩) else .fail
   | .ref id off len=> .live id (.get id fun s es=>
    if s=sz∧off=0∧len≤es.length∧len+src.length≤roomy∧(len+src.length)*bytes≤roomy then
     .new q (.pure ⟨.ref q 0 (len+src.length),[(id,.dead),(q,.row sz (es.take len++src) true)],[]⟩)
    else .fail)
   | _=> .fail)).run H:=by
 simp only [opE,ze,hs,Option.bind_some];rfl
theorem Q7 {o:Nat}{p:List Nat}(h1:ρ o p=some none):VS (S:=S) ρ H (.whole o p) .nil:= .inr ⟨h1,rfl⟩
theorem yI {id:Nat}{o:Out}(h1:hat H id= .fresh)(h2:id<H.length):(Eff.new id (.pure o)).run H=some o:=by simp only [Eff.run,h1,h2,if_true]
def Z4 (dst:Option Nat)(res:Nat)(e:Code)(sz bytes:Nat)(x y:PX)(t:TS S)(K:TS S→Option α):Option α:=match Nat.beq (W (S:=S) e) sz&&t.av.contains res && !zW e,evK t x with
 | true,some .nil=>zdi t e y fun n m=>room m.length bytes (K (((t.take res).add (.row n e m)).putD dst (.whole t.nx [])))
 | true,some (.whole o p)=>(match p with
  | []=>rowOf t o [] fun n0 c l=>(match zW c,Y6 c e l with
   | false,some l=>zdi t e y fun n m=>room (l.length+m.length) bytes (K ((((t.forget o).take res).addAt o (.row (mx n0 n) e (l++m))).putD dst (.whole o [])))
   | _,_=>none)
  | _::_=>none)
 | true,some (.win o p off len)=>(match p,Nat.beq off 0,look t.hp o with
  | [],true,some (.row n0 c l)=>(match zW c,Y6 c e l with
   | false,some l=>zdi t e y fun n m=>cond m.isEmpty none (room (len+m.length) bytes (K ((((t.forget o).take res).addAt o (.row (mx n0 n) e (l.take len++m))).putD dst (.whole o []))))
   | _,_=>none)
  | _,_,_=>none)
 | _,_=>none
theorem qN {n:Nat}{e:Code}{m:List (T S e)}{src:List (List D)}(h:Els H n e m src):src.isEmpty=m.isEmpty:=by
 have:=h.1
 cases src<;>cases m<;>first | rfl | (simp at this)
theorem QL (h:zc fr b N ρ t s)(hd:yk N dst=true){e:Code}{sz bytes:Nat}{x y:PX}{wo:List Nat}(hwo: ∀v o,evK t x=some v→QO v=some o→wo.contains o=true)(hw0': ∀v,evK t x=some v→QO v=none→wo= [])(hr:Z4 dst res e sz bytes x y t K=some r):ziZ t.nx wo ρ fr b N s (.append sz bytes x y) res dst (fun t'=>K t'=some r):=by
 unfold Z4 at hr;split at hr
 ·rename_i hc hx;simp only [Bool.and_eq_true,Bool.not_eq_true'] at hc;obtain ⟨⟨hw,hav⟩,ho⟩:=hc
  obtain rfl:=Nat.eq_of_beq_eq_true hw
  obtain ⟨n,m,src,k1,k2,k3⟩:=JU h hr
  unfold room at k1;split at k1
  ·rename_i hroom;have ex:x.ev s.ts= .nil:=h.ev hx
   intro call
   cases hm:m.isEmpty with
   | true=>
    have hm0:m= []:=List.isEmpty_iff.mp hm
    subst hm0;obtain ⟨ρ',q1,q2,qM⟩:=h.newN (q:=res) (ob:= .row n e []) (fun ρ' e1=>zw.of_nil e1)
    refine ⟨⟨.nil,[],[]⟩,ρ',_,?_,q1.putD hd (Q7 q2),⟨qM _,(fun w hw=>nomatch hw),fun o id e=> .inl (qM [] o [] _ (by rfl) e)⟩,k1⟩
    rw [zU k2,if_pos (by rw [qN k3];exact hm),ex];rfl
   | false=>
    obtain ⟨ρ',q1,q2,q3,q4,q5,qM,_⟩:=h.new2 (r:=res) (sz:=W (S:=S) e) (es:=src) (ob:= .row n e m) hav (fun ρ' H' hx e1 e2=>zw.of_els ho e1 e2 (k3.mono (Nat.le_refl _) hx.hle))
    refine ⟨⟨.ref (b+res) 0 src.length,[(b+res,.row (W (S:=S) e) src true)],[]⟩,ρ',_,?_,q1.putD hd (yA q2 q3 rfl),⟨fun o p x _ hx=>qM o p x hx,fun w hw=>by
     simp only [List.mem_singleton] at hw;subst hw;exact .inr ⟨t.nx,.inr ⟨hw0' _ hx rfl,rfl⟩,q2⟩,fun o id e=> .inl (qM o [] _ e)⟩,k1⟩
    rw [zU k2,if_neg (by rw [qN k3,hm];simp),ex]
    simp only
    rw [if_pos (by rw [k3.1];exact hroom),yI q4 q5]
  ·cases k1
 ·rename_i o p hc hx;have hw0:wo.contains o=true:=hwo _ _ hx rfl
  simp only [Bool.and_eq_true,Bool.not_eq_true'] at hc;obtain ⟨⟨hw,hav⟩,ho⟩:=hc
  obtain rfl:=Nat.eq_of_beq_eq_true hw
  cases p with
  | cons _ _=>cases hr
  | nil=>
  obtain ⟨n0,c,l0,hr,hrow0⟩:=h.rowOf hr
  ·split at hr
   ·rename_i l hco hcl;obtain ⟨n,m,src,k1,k2,k3⟩:=JU h hr
    unfold room at k1;split at k1
    ·rename_i hroom;have w1:=(yU hcl).1
     have w3:=(yU hcl).2.2
     have hrow:=zw.els hco hrow0
     rw [List.append_nil] at hrow;intro call;rcases hrow with ⟨q1,rfl⟩ | ⟨id,es,q1,q2,q3⟩<;>rcases h.ev hx with ⟨id',sz',es',c1,c2,c3⟩ | ⟨c1,c3⟩<;>rw [q1] at c1<;>cases c1
     ·have hl0:l= []:=by simpa using w3
      subst hl0;simp only [List.nil_append,List.length_nil,Nat.zero_add] at k1 hroom
      cases hm:m.isEmpty with
      | true=>
       have hm0:m= []:=List.isEmpty_iff.mp hm
       subst hm0;obtain ⟨ρ',z1,z2,zM,zT⟩:=h.again (q:=res) (o:=o) (ob:= .row (mx n0 n) e []) q1 (fun ρ' e1=>zw.of_nil e1)
       refine ⟨⟨.nil,[],[]⟩,ρ',_,?_,z1.putD hd (Q7 z2),⟨zM _ hw0,(fun w hw=>nomatch hw),zT rfl⟩,k1⟩
       rw [zU k2,if_pos (by rw [qN k3];exact hm),c3];rfl
      | false=>
       obtain ⟨z3,z4,z5,z6,z7,z8,z9⟩:=(h.forget o).fresh (r:=res) (sz:=W (S:=S) e) (es:=src) hav
       obtain ⟨z10,z11⟩:=z3.addAt (o:=o) (fun p=>Z9 o p) (q:=at0 (some (b+res))) (ob:= .row (mx n0 n) e m) (fun p p' id e1 e2=>by rw [(zR e1).1,(zR e2).1]) (fun p id e=>by
        obtain ⟨rfl,e⟩:=zR e
        cases e;exact ⟨z6,z7,_,src,z5⟩) (fun hx=>zw.of_els ho (by rw [zF];rfl) z5 (k3.mono (qQ _ _).2 z4.hle))
       refine ⟨⟨.ref (b+res) 0 src.length,[(b+res,.row (W (S:=S) e) src true)],[]⟩,_,_,?_,z10.putD hd (yA (by rw [zF];rfl) z5 rfl),⟨Mv.ins hw0,fun w hw=>by
        simp only [List.mem_singleton] at hw;subst hw;exact .inr ⟨o,.inl hw0,by rw [zF];rfl⟩,TPd.ins fun id e=>by
        rw [q1] at e;cases e⟩,k1⟩
       rw [zU k2,if_neg (by rw [qN k3,hm];simp),c3]
       simp only
       rw [if_pos (by rw [k3.1];exact hroom),yI z8 z9]
     ·rw [q2] at c2;cases c2;have q4:Els s.hp n0 e l es:=q3.conv hcl
      cases hm:m.isEmpty with
      | true=>
       have hm0:m= []:=List.isEmpty_iff.mp hm
       subst hm0;rw [List.append_nil] at k1;obtain ⟨ρ',z1,z2,zM,zT⟩:=h.again (q:=res) (o:=o) (ob:= .row (mx n0 n) e l) q1 (fun ρ' e1=>zw.of_els ho e1 (by rw [←w1];exact q2) (q4.mono (qQ _ _).1 (HLe.refl _)))
       refine ⟨⟨.ref id 0 es.length,[],[]⟩,ρ',_,?_,z1.putD hd (yA z2 q2 rfl),⟨zM _ hw0,(fun w hw=>nomatch hw),zT rfl⟩,k1⟩
       rw [zU k2,if_pos (by rw [qN k3];exact hm),c3];rfl
      | false=>
       obtain ⟨ρ',z1,z2,z3,z4,z5,zM,zT⟩:=h.moved (q:=res) (sz:=W (S:=S) e) (es':=es.take es.length++src) (ob:= .row (mx n0 n) e (l++m)) q1 q2 hav (fun ρ' H' hle e1 e2=>zw.of_els ho e1 e2 (by
        rw [List.take_of_length_le (Nat.le_refl _)];exact (q4.mono (qQ _ _).1 hle).app (k3.mono (qQ _ _).2 hle)))
       have hlen:es.length=l.length:=q4.1
       refine ⟨⟨.ref (b+res) 0 (es.length+src.length),[(id,.dead),(b+res,.row (W (S:=S) e) (es.take es.length++src) true)],[]⟩,ρ',_,?_,z1.putD hd (yA z2 z3 (by simp)),⟨zM _ hw0,fun w hw=>by
        simp only [List.mem_cons,List.not_mem_nil,or_false] at hw;rcases hw with rfl | rfl
        ·exact .inl rfl
        ·exact .inr ⟨o,.inl hw0,z2⟩,zT rfl⟩,k1⟩
       rw [zU k2,if_neg (by rw [qN k3,hm];simp),c3]
       simp only [Eff.run,q2];rw [if_pos ⟨w1,trivial,Nat.le_refl _,by rw [k3.1,hlen];exact hroom⟩]
       exact yI z4 z5
    ·cases k1
   ·cases hr
 ·rename_i o p off len hc hx;have hw0:wo.contains o=true:=hwo _ _ hx rfl
  simp only [Bool.and_eq_true,Bool.not_eq_true'] at hc;obtain ⟨⟨hw,hav⟩,ho⟩:=hc
  obtain rfl:=Nat.eq_of_beq_eq_true hw
  split at hr
  ·rename_i n0 c l0 hof hob;obtain rfl:=Nat.eq_of_beq_eq_true hof
   split at hr
   ·rename_i l hco hcl;obtain ⟨n,m,src,k1,k2,k3⟩:=JU h hr
    cases hm:m.isEmpty with
    | true=>rw [hm] at k1;cases k1
    | false=>
     rw [hm] at k1;simp only [cond_false] at k1;unfold room at k1;split at k1
     ·rename_i hroom;have w1:=(yU hcl).1
      have w3:=(yU hcl).2.2
      have hrow:=zw.els hco (h.hp _ _ hob)
      intro call;rcases hrow with ⟨q1,rfl⟩ | ⟨id,es,q1,q2,q3⟩<;>rcases h.ev hx with ⟨id',sz',es',c1,c2,c3,c4⟩ | ⟨c1,c2,c5,c3⟩<;>rw [q1] at c1<;>cases c1
      ·have hl0:l= []:=by simpa using w3
       subst hl0 c5
       simp only [List.take_nil,List.nil_append,Nat.zero_add] at k1 hroom;obtain ⟨z3,z4,z5,z6,z7,z8,z9⟩:=(h.forget o).fresh (r:=res) (sz:=W (S:=S) e) (es:=src) hav
       obtain ⟨z10,z11⟩:=z3.addAt (o:=o) (fun p=>Z9 o p) (q:=at0 (some (b+res))) (ob:= .row (mx n0 n) e m) (fun p p' id e1 e2=>by rw [(zR e1).1,(zR e2).1]) (fun p id e=>by
        obtain ⟨rfl,e⟩:=zR e
        cases e;exact ⟨z6,z7,_,src,z5⟩) (fun hx=>zw.of_els ho (by rw [zF];rfl) z5 (k3.mono (qQ _ _).2 z4.hle))
       refine ⟨⟨.ref (b+res) 0 src.length,[(b+res,.row (W (S:=S) e) src true)],[]⟩,_,_,?_,z10.putD hd (yA (by rw [zF];rfl) z5 rfl),⟨Mv.ins hw0,fun w hw=>by
        simp only [List.mem_singleton] at hw;subst hw;exact .inr ⟨o,.inl hw0,by rw [zF];rfl⟩,TPd.ins fun id e=>by
        rw [q1] at e;cases e⟩,k1⟩
       rw [zU k2,if_neg (by rw [qN k3,hm];simp),c3]
       simp only
       rw [if_pos (by rw [k3.1];exact hroom),yI z8 z9]
      ·rw [q2] at c2;cases c2;rw [Nat.zero_add] at c3;have q4:Els s.hp n0 e l es:=q3.conv hcl
       obtain ⟨ρ',z1,z2,z3,z4,z5,zM,zT⟩:=h.moved (q:=res) (sz:=W (S:=S) e) (es':=es.take len++src) (ob:= .row (mx n0 n) e (l.take len++m)) q1 q2 hav (fun ρ' H' hle e1 e2=>zw.of_els ho e1 e2
        (((q4.take len).mono (qQ _ _).1 hle).app (k3.mono (qQ _ _).2 hle)))
       refine ⟨⟨.ref (b+res) 0 (len+src.length),[(id,.dead),(b+res,.row (W (S:=S) e) (es.take len++src) true)],[]⟩,ρ',_,?_,z1.putD hd (yA z2 z3 (by simp;omega)),⟨zM _ hw0,fun w hw=>by
        simp only [List.mem_cons,List.not_mem_nil,or_false] at hw;rcases hw with rfl | rfl
        ·exact .inl rfl
        ·exact .inr ⟨o,.inl hw0,z2⟩,zT rfl⟩,k1⟩
       rw [zU k2,if_neg (by rw [qN k3,hm];simp),c4]
       simp only [Eff.run,q2];rw [if_pos ⟨w1,trivial,c3,by rw [k3.1];exact hroom⟩]
       exact yI z4 z5
     ·cases k1
   ·cases hr
  ·cases hr
 ·cases hr
def woX (t:TS S)(x:PX):List Nat:=match evK t x with
 | some v=>(match QO v with
  | some o=> [o]
  | none=> [])
 | none=> []
theorem zbv {x:PX}: ∀v o,evK t x=some v→QO v=some o→(woX t x).contains o=true:=fun v o h1 h2=>by
 unfold woX;rw [h1];simp only [h2];simp
theorem zbe (h:zc fr b N ρ t s)(hd:yk N dst=true){e:Code}{sz bytes:Nat}{x y:PX}(hr:Z4 dst res e sz bytes x y t K=some r):Got fr b N s (.append sz bytes x y) res dst (fun t'=>K t'=some r):=
 (QL h hd zbv (fun v h1 h2=>by unfold woX;rw [h1];simp only [h2]) hr).gotM.got
end
section
variable {S:Nat→Type} [Sg:Sig S] {ρ ρ':Rho} {H H':zf} {fr:Fr} {b N:Nat} {t:TS S} {s:St} {α:Type}
variable {dst:Option Nat} {res:Nat} {r:α} {K:TS S→Option α}
theorem zw.up {n n':Nat}(hn:n≤n'): ∀ {e:Code} {q:List Nat→Option (Option Nat)} {l:List (T S e)},zw H n e q l→zw H n' e q l
 | .own e,q,l,h=>qe.ext (fun _ _ h=>h) (fun _ _ _=>rfl) (fun i v ds _ ⟨y,h1,h2,h3⟩=>⟨y,h1,h2,zw.up hn (e:=e) h3⟩) h
 | .int _,_,_,h | .bool,_,_,h | .flt,_,_,h | .str,_,_,h | .list _,_,_,h | .arr _ _,_,_,h | .st _,_,_,h=>
  qe.ext (fun _ _ h=>h) (fun _ _ _=>rfl) (fun _ _ _ _ h=>h.mono fun _ _ _ q=>q.up hn) h
theorem zc.more (h:zc fr b N ρ t s)(hx: ∀o p x,ρ o p=some x→ρ' o p=some x)(h1: ∀o p o' p' id,ρ' o p=some (some id)→ρ' o' p'=some (some id)→o=o'∧p=p')
  (h2: ∀o p id,ρ' o p=some (some id)→fr id=none∧ ∃sz es,hat s.hp id= .row sz es true) (h3: ∀o p,t.nx≤o→ρ' o p=none):zc fr b N ρ' t s:=by
 have x:Ext ρ s.hp ρ' s.hp:=⟨HLe.refl _,hx,fun _ _ _ _ es _ h=>⟨es,h,rfl⟩⟩
 exact ⟨h.len,fun i v hv=>(h.sl i v hv).ext x,fun o ob ho=>qn.ext x (fun _ _ _=>rfl) (h.hp _ _ ho),h1,h2,h3,h.frm,h.avl⟩
def Yo (P:Nat→List Nat→Bool)(Q:Nat→Bool):List (Nat×Obj S)→List (Nat×Obj S)
 | []=> []
 | (i,v)::E=>match Q i with
  | true=>Yo P Q E
  | false=>(i,Uu P v)::Yo P Q E
def TS.clear2 (t:TS S)(P:Nat→List Nat→Bool)(Q:Nat→Bool):TS S:= { t with sl:=QZ P t.sl,hp:=Yo P Q t.hp }
omit Sg in
theorem jh {P:Nat→List Nat→Bool}{Q:Nat→Bool}: ∀ {E:List (Nat×Obj S)} {i:Nat} {v:Obj S},look (Yo P Q E) i=some v→Q i=false∧ ∃w,look E i=some w∧v=Uu P w
 | [],_,_,h=>nomatch h
 | (k,w)::E,i,v,h=>by
  simp only [Yo] at h;split at h
  ·rename_i q;obtain ⟨h1,u,h2,h3⟩:=jh h
   refine ⟨h1,u,?_,h3⟩
   have:Nat.beq k i=false:=by
    cases z:Nat.beq k i
    ·rfl
    ·rw [Nat.eq_of_beq_eq_true z,h1] at q
     cases q
   simp only [look,this,h2]
  ·rename_i q;simp only [look] at h ⊢
   split at h
   ·rename_i z
    cases h;rw [Nat.eq_of_beq_eq_true z] at q;exact ⟨q,w,rfl,rfl⟩
   ·exact jh h
theorem zc.clear2 {P:Nat→List Nat→Bool}{Q:Nat→Bool}(h:zc fr b N ρ t s)(hP: ∀o p,Q o=false→P o p=false):zc fr b N (yc ρ P) (t.clear2 P Q) s where
 len:=h.len
 sl:=fun i v hv=>by
  obtain ⟨w,h1,rfl⟩:=jM hv
  exact (h.sl _ _ h1).clear
 hp:=fun q ob hq=>by
  obtain ⟨h1,w,h2,rfl⟩:=jh hq
  have h3:=h.hp _ _ h2
  cases w with
  | row n e l=>exact zw.ext (HLe.refl _) (fun p x hx=>by rw [y5 (hP q p h1)];exact hx) (fun p id _=>rfl) h3
  | box pn vs=>
   obtain ⟨id,ds,k1,k2,k3,k9⟩:=h3
   exact ⟨id,ds,by rw [y5 (hP q [] h1)];exact k1,by rw [k3.clear.2];exact k2,k3.clear.1,k9⟩
 inj:=fun _ _ _ _ _ h1 h2=>h.inj _ _ _ _ _ (zO h1).2 (zO h2).2
 liv:=fun _ _ _ h1=>h.liv _ _ _ (zO h1).2
 nxt:=fun q p hq=>by
  have:=h.nxt q p hq
  simp only [yc];split
  ·rfl
  ·exact this
 frm:=h.frm
 avl:=h.avl
def Vs (e' e:Code)(l:List (T S e')):Option (List (T S e)):=if h:e'=e then some (h▸l) else none
omit Sg in
theorem QE {e' e:Code}{l:List (T S e')}{m:List (T S e)}(h:Vs e' e l=some m): ∃he:e'=e,m=he▸l:=by
 unfold Vs at h;split at h
 ·cases h;exact ⟨by assumption,rfl⟩
 ·cases h
theorem zc.wholeD (h:zc fr b N ρ t s){q n:Nat}{e:Code}{l:List (T S e)}{d:D}(ho:look t.hp q=some (.row n e l))(hv:VS (S:=S) ρ s.hp (.whole q []) d): ∃x,ρ q []=some x∧d=yN x l.length∧(x=none→l= []):=by
 rcases (show zw s.hp n e (ρ q) l from h.hp _ _ ho).top with ⟨h1,rfl⟩ | ⟨id,es,h1,h2,h3⟩<;>rcases hv with ⟨id',sz,es',c1,c2,rfl⟩ | ⟨c1,rfl⟩<;>rw [h1] at c1<;>cases c1
 ·exact ⟨none,h1,rfl,fun _=>rfl⟩
 ·rw [h2] at c2;cases c2;exact ⟨some id,h1,by rw [h3];rfl,fun e=>nomatch e⟩
def PO1 (o q:Nat):Nat→List Nat→Bool:=fun r p=>Nat.beq r q || (Nat.beq r o && !p.isEmpty)
def QO1 (o q:Nat):Nat→Bool:=fun r=>Nat.beq r q || Nat.beq r o
def JN (ρ:Rho)(o q i:Nat):Rho:=fun r p=>match Nat.beq r q,Nat.beq r o,p with
 | true,_,_=>none
 | false,true,j::p=>(match Nat.beq j i with
  | true=>ρ q p
  | false=>ρ o (j::p))
 | false,_,p=>ρ r p
def XL (n:Nat)(x y:PX)(t:TS S)(K:TS S→Option α):Option α:=match Nat.beq n 1,evK t x,evK t y with
 | true,some (.ptr o p i j),some (.whole q p')=>(match p,p',Nat.beq j 0 && !Nat.beq o q,look t.hp o,look t.hp q with
  | [],[],true,some (.row m (.own e) l),some (.row m' e' l')=>(match Vs e' e l' with
   | some v=>((l:List (T S (.own e)))[i]?).bind fun _=>K ((t.clear2 (PO1 o q) (QO1 o q)).setO o (.row (mx m m') (.own e) (List.set (l:List (T S (.own e))) i v)))
   | none=>none)
  | _,_,_,_,_=>none)
 | _,_,_=>none
theorem ja {a c:Nat}(h:Nat.beq a c=false):a≠c:=fun e=>by subst e;simp at h
theorem ZS {a c:Nat}(h:a≠c):Nat.beq a c=false:=by
 cases z:Nat.beq a c
 ·rfl
 ·exact absurd (Nat.eq_of_beq_eq_true z) h
theorem Zt {o q i r:Nat}{p:List Nat}{x:Option Nat}(hoq:o≠q)(h:JN ρ o q i r p=some x):r≠q∧((r=o∧ ∃p',p=i::p'∧ρ q p'=some x)∨(ρ r p=some x∧(r=o→ ∀p',p≠i::p'))):=by
 unfold JN at h;split at h
 ·cases h
 ·rename_i j p' hq ho;obtain rfl:=Nat.eq_of_beq_eq_true ho
  refine ⟨hoq,?_⟩
  split at h
  ·rename_i hj;obtain rfl:=Nat.eq_of_beq_eq_true hj
   exact .inl ⟨rfl,p',rfl,h⟩
  ·rename_i hj;exact .inr ⟨h,fun _ p'' e=>by injection e with e1 e2;exact ja hj e1⟩
 ·rename_i hq hn;refine ⟨ja hq,.inr ⟨h,fun e p' e'=> ?_⟩⟩
  subst e e'
  exact hn _ _ (by simp) rfl
theorem zaw {o q i:Nat}(hoq:o≠q):JN ρ o q i o []=ρ o []:=by simp [JN,ZS hoq]
theorem zcL {o q i:Nat}(hoq:o≠q)(p:List Nat):JN ρ o q i o (i::p)=ρ q p:=by simp [JN,ZS hoq]
theorem zcK {o q i j:Nat}(hoq:o≠q)(hj:j≠i)(p:List Nat):JN ρ o q i o (j::p)=ρ o (j::p):=by simp [JN,ZS hoq,ZS hj]
theorem zbb (h:zc fr b N ρ t s){n:Nat}{x y:PX}(hr:XL n x y t K=some r):Got fr b N s (.store n x y) res none (fun t'=>K t'=some r):=by
 unfold XL at hr;split at hr
 ·rename_i o p i j q p' hn hx hy;obtain rfl:=Nat.eq_of_beq_eq_true hn
  split at hr
  ·rename_i m e l m' e' l' hj ho hq;simp only [Bool.and_eq_true,Bool.not_eq_true'] at hj;obtain rfl:=Nat.eq_of_beq_eq_true hj.1
   have hoq:=ja hj.2
   split at hr
   ·rename_i v hv;simp only [Option.bind_eq_some_iff] at hr;obtain ⟨v0,hv0,hr⟩:=hr
    obtain ⟨rfl,rfl⟩:=QE hv
    obtain ⟨id,sz,es,c1,c2,c3,c4⟩:=h.ev hx
    have hrow:zw s.hp m (.own e') (ρ o) l:=h.hp _ _ ho
    obtain ⟨id',es',y0,k1,k2,k3,k4,k5,k6⟩:=qT hrow hv0
    rw [c1] at k1;cases k1;rw [c2] at k2;cases k2;obtain ⟨z,z1,z2,z3⟩:=h.wholeD hq (h.ev hy)
    have hone:one (y.ev s.ts)=true:=by rw [z2];cases z<;>rfl
    have hcells:cellsOf (y.ev s.ts)= [y.ev s.ts]:=YY fun cs e=>by rw [e] at hone;cases hone
    have hil:i<l.length:=by
     rcases Nat.lt_or_ge i l.length with k | k
     ·exact k
     ·rw [List.getElem?_eq_none k] at hv0;cases hv0
    have r1:zc fr b N (yc ρ (PO1 o q)) (t.clear2 (PO1 o q) (QO1 o q)) s:=h.clear2 (fun r p hr=>by
     simp only [QO1,Bool.or_eq_false_iff] at hr;simp only [PO1,hr.1,hr.2,Bool.false_and,Bool.or_self])
    have r2:zc fr b N (JN ρ o q i) (t.clear2 (PO1 o q) (QO1 o q)) s:=r1.more (fun r p x hx=>by
      obtain ⟨e1,e2⟩:=zO hx
      simp only [PO1,Bool.or_eq_false_iff] at e1;unfold JN;rw [e1.1]
      cases ez:Nat.beq r o with
      | false=>exact e2
      | true=>
       have e3:=e1.2
       rw [ez,Bool.true_and] at e3
       cases p with
       | nil=>exact e2
       | cons _ _=>cases e3)
     (fun r p r' p' id e1 e2=>by
      obtain ⟨a1,a2⟩:=Zt hoq e1
      obtain ⟨b1,b2⟩:=Zt hoq e2
      rcases a2 with ⟨rfl,p1,rfl,a3⟩ | ⟨a3,a4⟩<;>rcases b2 with ⟨rfl,p2,rfl,b3⟩ | ⟨b3,b4⟩
      ·have:=(h.inj _ _ _ _ _ a3 b3).2
       subst this;exact ⟨rfl,rfl⟩
      ·exact absurd (h.inj _ _ _ _ _ a3 b3).1.symm b1
      ·exact absurd (h.inj _ _ _ _ _ a3 b3).1 a1
      ·exact h.inj _ _ _ _ _ a3 b3)
     (fun r p id e1=>by
      rcases (Zt hoq e1).2 with ⟨rfl,p1,rfl,a3⟩ | ⟨a3,_⟩<;>exact h.liv _ _ _ a3)
     (fun r p hr=>by
      have hr:t.nx≤r:=hr
      cases ez:JN ρ o q i r p with
      | none=>rfl
      | some x=>
       rcases (Zt hoq ez).2 with ⟨rfl,p1,rfl,a3⟩ | ⟨a3,_⟩
       ·have:=h.nxt r [] hr
        rw [c1] at this
        cases this
       ·rw [h.nxt _ _ hr] at a3;cases a3)
    intro call;refine ⟨_,JN ρ o q i,_,run_store (e:= [yN y0 (List.length v0)]) c4 c3 c2 k5 (by simp) (by rw [hcells];rfl) (by rw [hcells];simp [hone]) call _,?_,hr⟩
    have esp:qF [yN y0 (List.length v0)] 0 (cellsOf (y.ev s.ts))= [yN z (List.length v)]:=by rw [hcells,z2];rfl
    rw [esp];have hidn: ∀ {r p},(r,p)≠(o,[])→ρ r p≠some (some id):=fun hne e=>hne (by
     have:=h.inj _ _ _ _ _ e c1
     rw [this.1,this.2])
    refine r2.upd (es:=es) (es':=es.set i [yN z (List.length v)]) (by rw [zaw hoq];exact c1) c2 (by simp) (fun hx e1 e2=> ?_)
    refine .inr ⟨id,es.set i [yN z (List.length v)],by rw [zaw hoq];exact c1,?_,List.length_set.trans (k3.trans List.length_set.symm),fun k w hw=> ?_⟩
    ·exact e1
    ·rw [List.getElem?_set] at hw;split at hw
     ·rename_i e;subst e;simp only [hil,if_true,Option.some.injEq] at hw;subst hw;refine ⟨_,by rw [List.getElem?_set_self (by rw [k3];exact hil)],z,by rw [zcL hoq];exact z1,rfl,?_⟩
      have q1:zw s.hp m' e' (ρ q) v:=h.hp _ _ hq
      exact (q1.ext hx.hle (fun p x hx=>by rw [zcL hoq];exact hx) (fun p id2 hp=>e2 _ (fun e=>hidn (by intro e;cases e;exact hoq rfl) (e▸hp)))).up (qQ _ _).2
     ·rename_i hne;obtain ⟨id2,es2,y1,b1,b2,b3,b4,b5,b6⟩:=qT hrow hw
      rw [c1] at b1;cases b1;rw [c2] at b2;cases b2;refine ⟨_,by rw [List.getElem?_set_ne hne];exact b5,y1,by rw [zcK hoq (Ne.symm hne)];exact b4,rfl,?_⟩
      exact (b6.ext hx.hle (fun p x hx=>by rw [zcK hoq (Ne.symm hne)];exact hx) (fun p id2 hp=>e2 _ (fun e=>hidn (by intro e;cases e) (e▸hp)))).up (qQ _ _).1
   ·cases hr
  ·cases hr
 ·cases hr
def zeB (nx:Nat)(mo:List Nat)(ρ:Rho)(fr:Fr)(b N:Nat)(s:St)(op:POp)(res:Nat)(dst:Option Nat)(P:TS S→Prop):Prop:=
 ∀call:zy, ∃out ρ' t',(opE call (PX.ev s.ts) (b+res) op).run s.hp=some out∧zc fr b N ρ' t' ⟨yh s.ts dst out.d,out.on s.hp⟩∧(Mv mo ρ ρ'∧ ∀w∈out.ws,ρ' nx []=some (some w.1))∧P t'
theorem zeB.got {nx:Nat}{mo:List Nat}{op:POp}{P:TS S→Prop}(h:zeB nx mo ρ fr b N s op res dst P):Got fr b N s op res dst P:=fun call=>
 let ⟨out,ρ',t',h1,h2,_,h3⟩:=h call
 ⟨out,ρ',t',h1,h2,h3⟩
theorem Mv.new (h:zc fr b N ρ t s){P:Nat→List Nat→Bool}{q:List Nat→Option (Option Nat)}{mo:List Nat}(hP: ∀r p,P r p=true→mo.contains r=true):Mv mo ρ (Pi.ins (yc ρ P) t.nx q):=fun o p x h1 h2=>by
 have hne:o≠t.nx:=fun e=>by subst e;rw [h.nxt _ _ (Nat.le_refl _)] at h2;cases h2
 rw [qv hne,y5]
 ·exact h2
 ·cases e:P o p with
  | false=>rfl
  | true=>rw [hP _ _ e] at h1;cases h1
def moB (t:TS S):List (Nat×PX)→List Nat
 | [(_,x)]=>(match evK t x with
  | some (.whole q _)=> [q]
  | _=> [])
 | _=> []
def zix (ρ:Rho)(q:Nat)(id:Nat):List Nat→Option (Option Nat)
 | []=>some (some id)
 | 0::p=>ρ q p
 | (_+1)::_=>none
def Qs (dst:Option Nat)(res:Nat)(sz n:Nat)(zero:List D)(ps:List (Nat×PX))(t:TS S)(K:TS S→Option α):Option α:=match ps with
 | [(0,x)]=>(match evK t x,Nat.beq sz 1&&Nat.beq n 1&&t.av.contains res with
  | some (.whole q p),true=>(match p,look t.hp q with
   | [],some (.row m e l)=>K ((((t.forget q).take res).add (.row m (.own e) [l])).putD dst (.whole t.nx []))
   | _,_=>none)
  | _,_=>none)
 | _=>none
theorem zax (z:Option Nat)(n:Nat):one (yN z n)=true∧cellsOf (yN z n)= [yN z n]:=by cases z<;>exact ⟨rfl,rfl⟩
theorem QK (h:zc fr b N ρ t s)(hd:yk N dst=true){sz n:Nat}{zero:List D}{ps:List (Nat×PX)}(hr:Qs dst res sz n zero ps t K=some r):zeB t.nx (moB t ps) ρ fr b N s (.buildSlice sz n zero ps) res dst (fun t'=>K t'=some r):=by
 unfold Qs at hr;split at hr
 ·rename_i x;split at hr
  ·rename_i q p hx ha;simp only [Bool.and_eq_true] at ha;obtain ⟨⟨hs,hn⟩,hav⟩:=ha
   obtain rfl:=Nat.eq_of_beq_eq_true hs
   obtain rfl:=Nat.eq_of_beq_eq_true hn
   split at hr
   ·rename_i m e l hq;obtain ⟨z,z1,z2,z3⟩:=h.wholeD hq (h.ev hx)
    have hql:q<t.nx:=by
     rcases Nat.lt_or_ge q t.nx with k | k
     ·exact k
     ·rw [h.nxt _ _ k] at z1;cases z1
    obtain ⟨k3,k4,k5,k6,k7,k8,k9⟩:=(h.forget q).fresh (r:=res) (sz:=1) (es:= [[yN z l.length]]) hav
    have k6': ∀o p,ρ o p≠some (some (b+res)):=fun o p e=>by
     obtain ⟨_,_,_,e2⟩:=h.liv _ _ _ e
     rw [k8] at e2;cases e2
    have hcases: ∀ {p id},zix ρ q (b+res) p=some (some id)→(p= []∧id=b+res) ∨ ∃p',p=0::p'∧ρ q p'=some (some id):=by
     intro p id e;unfold zix at e;split at e
     ·cases e;exact .inl ⟨rfl,rfl⟩
     ·rename_i p';exact .inr ⟨p',rfl,e⟩
     ·cases e
    have hrow:zw s.hp m e (ρ q) l:=h.hp _ _ hq
    have hne: ∀ {j},j≠b+res→hat (s.hp.set (b+res) (.row 1 [[yN z l.length]] true)) j=hat s.hp j:=fun hj=>by rw [zp k9,if_neg hj]
    have k10:=k3.addObj (q:=zix ρ q (b+res)) (ob:= .row m (.own e) [l]) (fun p p' id e1 e2=>by
      rcases hcases e1 with ⟨rfl,a1⟩ | ⟨p1,rfl,a1⟩<;>rcases hcases e2 with ⟨rfl,a2⟩ | ⟨p2,rfl,a2⟩
      ·rfl
      ·rw [a1] at a2;exact absurd a2 (k6' _ _)
      ·rw [a2] at a1;exact absurd a1 (k6' _ _)
      ·rw [(h.inj _ _ _ _ _ a1 a2).2])
     (fun p id e1=>by
      rcases hcases e1 with ⟨rfl,rfl⟩ | ⟨p1,rfl,a1⟩
      ·exact ⟨k6,k7,1,_,k5⟩
      ·refine ⟨fun o p' e2=> ?_,(h.liv _ _ _ a1).1,?_⟩
       ·obtain ⟨e3,e4⟩:=qA e2
        exact e3 (h.inj _ _ _ _ _ e4 a1).1
       ·obtain ⟨_,sz,es,e2⟩:=h.liv _ _ _ a1
        exact ⟨sz,es,by rw [hne (fun e=>by subst e;exact k6' _ _ a1)];exact e2⟩)
     (fun hx=>by
      have hnx:((t.forget q).take res).nx=t.nx:=rfl
      refine .inr ⟨b+res,_,by rw [hnx,zF];rfl,k5,rfl,fun i w hw=> ?_⟩
      cases i with
      | succ i=>cases hw
      | zero=>
       cases hw;refine ⟨_,rfl,z,by rw [hnx,zF];exact z1,rfl,?_⟩
       exact hrow.ext k4.hle (fun p x hx=>by rw [hnx,zF];exact hx) (fun p id hp=>hne (fun e=>by subst e;exact k6' _ _ hp)))
    intro call;refine ⟨⟨.ref (b+res) 0 1,[(b+res,.row 1 [[yN z l.length]] true)],[]⟩,_,_,?_,k10.putD hd (yA (o:=t.nx) (id:=b+res) (by rw [show ((t.forget q).take res).nx=t.nx from rfl,zF];rfl) k5 rfl),⟨Mv.new h (P:=isO q) (fun r p hp=>by
     have em:moB t [(0,x)]= [q]:=by
      show (match evK t x with | some (Val.whole q _)=> [q] | _=> [])= [q]
      rw [hx]
     rw [em];have:q=r:=(Nat.eq_of_beq_eq_true hp).symm
     subst this;simp),fun w hw=>by
     have hw:=List.mem_singleton.mp hw
     subst hw;rw [show ((t.forget q).take res).nx=t.nx from rfl,zF];rfl⟩,hr⟩
    obtain ⟨o1,o2⟩:=zax z l.length
    simp only [opE,List.all_cons,List.all_nil,z2,o2,o1,Bool.and_true,Bool.and_self,if_true,List.map_cons,List.map_nil,YJ,List.replicate,List.length_singleton,Nat.zero_lt_one,and_self,List.set_cons_zero];exact yI k8 k9
   ·cases hr
  ·cases hr
 ·cases hr
theorem zbd (h:zc fr b N ρ t s)(hd:yk N dst=true){sz n:Nat}{zero:List D}{ps:List (Nat×PX)}(hr:Qs dst res sz n zero ps t K=some r):Got fr b N s (.buildSlice sz n zero ps) res dst (fun t'=>K t'=some r):=(QK h hd hr).got
def ziw (id:Nat):List Nat→Option (Option Nat)
 | []=>some (some id)
 | [0]=>some none
 | _=>none
def Qq (dst:Option Nat)(res:Nat)(e:Code)(sz n:Nat)(zero:List D)(ps:List (Nat×PX))(t:TS S)(K:TS S→Option α):Option α:=match ps,Nat.beq sz 1&&Nat.beq n 1&&t.av.contains res with
 | [(0,x)],true=>(match evK t x with
  | some .nil=>K (((t.take res).add (.row 1 (.own e) [([]:List (T S e))])).putD dst (.whole t.nx []))
  | _=>none)
 | _,_=>none
theorem QJ (h:zc fr b N ρ t s)(hd:yk N dst=true){e:Code}{sz n:Nat}{zero:List D}{ps:List (Nat×PX)}(hr:Qq dst res e sz n zero ps t K=some r):zeB t.nx (moB t ps) ρ fr b N s (.buildSlice sz n zero ps) res dst (fun t'=>K t'=some r):=by
 unfold Qq at hr;split at hr
 ·rename_i x ha;simp only [Bool.and_eq_true] at ha;obtain ⟨⟨hs,hn⟩,hav⟩:=ha
  obtain rfl:=Nat.eq_of_beq_eq_true hs
  obtain rfl:=Nat.eq_of_beq_eq_true hn
  split at hr
  ·rename_i hx;have ex:x.ev s.ts= .nil:=h.ev hx
   obtain ⟨k3,k4,k5,k6,k7,k8,k9⟩:=h.fresh (r:=res) (sz:=1) (es:= [[D.nil]]) hav
   have hcases: ∀ {p id},ziw (b+res) p=some (some id)→p= []∧id=b+res:=by
    intro p id e;unfold ziw at e;split at e
    ·cases e;exact ⟨rfl,rfl⟩
    ·cases e
    ·cases e
   have k10:=k3.addObj (q:=ziw (b+res)) (ob:= .row 1 (.own e) [([]:List (T S e))]) (fun p p' id e1 e2=>by rw [(hcases e1).1,(hcases e2).1])
    (fun p id e1=>by
     obtain ⟨rfl,rfl⟩:=hcases e1
     exact ⟨k6,k7,1,_,k5⟩)
    (fun hx=>by
     have hnx:(t.take res).nx=t.nx:=rfl
     refine .inr ⟨b+res,_,by rw [hnx,zF];rfl,k5,rfl,fun i w hw=> ?_⟩
     cases i with
     | succ i=>cases hw
     | zero=>
      cases hw;exact ⟨_,rfl,none,by rw [hnx,zF];rfl,rfl,zw.of_nil (by rw [hnx,zF];rfl)⟩)
   intro call;refine ⟨⟨.ref (b+res) 0 1,[(b+res,.row 1 [[D.nil]] true)],[]⟩,_,_,?_,k10.putD hd (yA (o:=t.nx) (id:=b+res) (by rw [show (t.take res).nx=t.nx from rfl,zF];rfl) k5 rfl),⟨fun o p x' _ h2=>by
    rw [show (t.take res).nx=t.nx from rfl,qv (fun e=>by subst e;rw [h.nxt _ _ (Nat.le_refl _)] at h2;cases h2)]
    exact h2,fun w hw=>by
    have hw:=List.mem_singleton.mp hw
    subst hw;rw [show (t.take res).nx=t.nx from rfl,zF];rfl⟩,hr⟩
   have o1:one D.nil=true:=rfl
   have o2:cellsOf D.nil= [D.nil]:=rfl
   simp only [opE,List.all_cons,List.all_nil,ex,o2,o1,Bool.and_true,Bool.and_self,if_true,List.map_cons,List.map_nil,YJ,List.replicate,List.length_singleton,Nat.zero_lt_one,and_self,List.set_cons_zero];exact yI k8 k9
  ·cases hr
 ·cases hr
theorem zbc (h:zc fr b N ρ t s)(hd:yk N dst=true){e:Code}{sz n:Nat}{zero:List D}{ps:List (Nat×PX)}(hr:Qq dst res e sz n zero ps t K=some r):Got fr b N s (.buildSlice sz n zero ps) res dst (fun t'=>K t'=some r):=(QJ h hd hr).got
def U8 (ρ:Rho)(o q len id:Nat):List Nat→Option (Option Nat)
 | []=>some (some id)
 | i::p=>match Nat.blt i len with
  | true=>ρ o (i::p)
  | false=>ρ q ((i-len)::p)
def PA (o q:Nat):Nat→List Nat→Bool:=fun r _=>Nat.beq r o || Nat.beq r q
def Jf (dst:Option Nat)(res:Nat)(sz bytes:Nat)(x y:PX)(t:TS S)(K:TS S→Option α):Option α:=match evK t x,evK t y,Nat.beq sz 1&&t.av.contains res with
 | some (.whole o p),some (.whole q p'),true=>(match p,p', !Nat.beq o q,look t.hp o,look t.hp q with
  | [],[],true,some (.row n0 (.own e) l),some (.row n1 c m)=>(match Vs c (.own e) m with
   | some m=>cond m.isEmpty none (room (List.length (l:List (T S (.own e)))+m.length) bytes (K ((((t.clear (PA o q)).take res).addAt o (.row (mx n0 n1) (.own e) ((l:List (T S (.own e)))++m))).putD dst (.whole o []))))
   | _=>none)
  | _,_,_,_,_=>none)
 | _,_,_=>none
theorem yW {o q len id:Nat}{p:List Nat}{j:Nat}(h:U8 ρ o q len id p=some (some j)):(p= []∧j=id)∨(∃i p',p=i::p'∧i<len∧ρ o (i::p')=some (some j)) ∨ ∃i p',p=i::p'∧len≤i∧ρ q ((i-len)::p')=some (some j):=by
 unfold U8 at h;split at h
 ·cases h;exact .inl ⟨rfl,rfl⟩
 ·rename_i i p';split at h
  ·rename_i hi;exact .inr (.inl ⟨i,p',rfl,by simpa using hi,h⟩)
  ·rename_i hi;refine .inr (.inr ⟨i,p',rfl,?_,h⟩)
   rcases Nat.lt_or_ge i len with k | k
   ·rw [show Nat.blt i len=true by simpa using k] at hi;cases hi
   ·exact k
theorem zcM {o q len id i:Nat}(h:i<len)(p:List Nat):U8 ρ o q len id (i::p)=ρ o (i::p):=by
 simp only [U8,show Nat.blt i len=true by simpa using h]
theorem JW {o q len id i:Nat}(h:len≤i)(p:List Nat):U8 ρ o q len id (i::p)=ρ q ((i-len)::p):=by
 have:Nat.blt i len=false:=by
  cases z:Nat.blt i len
  ·rfl
  ·have:=Nat.le_of_ble_eq_true z;omega
 simp only [U8,this]
theorem qe.elts {β:Type}{sz:Nat}{q:List Nat→Option (Option Nat)}{l:List β}{E:Nat→β→List D→Prop}(h:qe H sz q l E):(q []=some none∧l= []) ∨ ∃id es,q []=some (some id)∧hat H id= .row sz es true∧es.length=l.length∧ ∀i v,l[i]? = some v→ ∃ds,es[i]? = some ds∧E i v ds:=h
def zeA (x y:PX)(wo:List Nat)(ρ:Rho)(fr:Fr)(b N:Nat)(s:St)(op:POp)(res:Nat)(dst:Option Nat)(P:TS S→Prop):Prop:=
 ∀call:zy, ∃out ρ' t',(opE call (PX.ev s.ts) (b+res) op).run s.hp=some out∧zc fr b N ρ' t' ⟨yh s.ts dst out.d,out.on s.hp⟩∧(Mv wo ρ ρ'∧(∀w∈out.ws,w.2= .dead ∨ ∃o,wo.contains o=true∧ρ' o []=some (some w.1)) ∧
  (∀id off len,x.ev s.ts= .ref id off len→hat (out.on s.hp) id= .dead) ∧
  ∀id off len,y.ev s.ts= .ref id off len→(∀o p,ρ' o p≠some (some id))∧fr id=none∧ ∃sz es,hat (out.on s.hp) id= .row sz es true)∧P t'
theorem zeA.got {x y:PX}{wo:List Nat}{op:POp}{P:TS S→Prop}(h:zeA x y wo ρ fr b N s op res dst P):Got fr b N s op res dst P:=fun call=>
 let ⟨out,ρ',t',h1,h2,_,h3⟩:=h call
 ⟨out,ρ',t',h1,h2,h3⟩
theorem Vk (h:zc fr b N ρ t s)(hd:yk N dst=true){sz bytes:Nat}{x y:PX}{wo:List Nat}(hwx: ∀v o,evK t x=some v→QO v=some o→wo.contains o=true)(hwy: ∀v o,evK t y=some v→QO v=some o→wo.contains o=true)(hr:Jf dst res sz bytes x y t K=some r):zeA x y wo ρ fr b N s (.append sz bytes x y) res dst (fun t'=>K t'=some r):=by
 unfold Jf at hr;split at hr
 ·rename_i o p q p' hx hy ha;simp only [Bool.and_eq_true] at ha;obtain ⟨hs,hav⟩:=ha
  obtain rfl:=Nat.eq_of_beq_eq_true hs
  split at hr
  ·rename_i n0 e l n1 c m0 hoq ho hq;have hoq:o≠q:=ja (by simpa using hoq)
   have hw1:wo.contains o=true:=hwx _ _ hx rfl
   have hw2:wo.contains q=true:=hwy _ _ hy rfl
   split at hr
   ·rename_i m hm;obtain ⟨rfl,rfl⟩:=QE hm
    cases hme:m.isEmpty with
    | true=>rw [hme] at hr;cases hr
    | false=>
     rw [hme] at hr;simp only [cond_false] at hr;unfold room at hr;split at hr
     ·rename_i hroom;have rowO:zw s.hp n0 (.own e) (ρ o) l:=h.hp _ _ ho
      have rowQ:zw s.hp n1 (.own e) (ρ q) m:=h.hp _ _ hq
      rcases qe.elts rowQ with ⟨_,rfl⟩ | ⟨id2,es2,y1,y2,y3,y4⟩
      ·cases hme
      have hsrc:(source 1 (y.ev s.ts)).run s.hp=some es2:=by
       rcases h.ev hy with ⟨id',sz',es',c1,c2,c3⟩ | ⟨c1,c3⟩<;>rw [y1] at c1<;>cases c1
       rw [y2] at c2;cases c2;rw [c3];simp only [source,Eff.run,y2];rw [if_pos ⟨trivial,by simp⟩,List.drop_zero,List.take_of_length_le (Nat.le_refl _)];rfl
      have hes2:es2.isEmpty=false:=by
       cases es2 with
       | nil=>cases m with
        | nil=>cases hme
        | cons _ _=>cases y3
       | cons _ _=>rfl
      have r1:zc fr b N (yc ρ (PA o q)) (t.clear (PA o q)) s:=h.clear fun r p hp=>hp
      have hcut: ∀ {r p x},yc ρ (PA o q) r p=some x→r≠o∧r≠q∧ρ r p=some x:=fun hx=>by
       obtain ⟨e1,e2⟩:=zO hx
       simp only [PA,Bool.or_eq_false_iff] at e1;exact ⟨ja e1.1,ja e1.2,e2⟩
      have hfree: ∀p,yc ρ (PA o q) o p=none:=fun p=>by simp [yc,PA]
      have fin: ∀(H1:zf) (esO:List (List D)),zc fr b N (yc ρ (PA o q)) (t.clear (PA o q)) ⟨s.ts,H1⟩→HLe s.hp H1→(∀r p id,ρ r p=some (some id)→(r,p)≠(o,[])→hat H1 id=hat s.hp id) →
        esO.length=l.length→(∀i v,l[i]? = some v→ ∃y,ρ o [i]=some y∧esO[i]? = some [yN y (List.length v)]∧zw s.hp n0 e (fun p=>ρ o (i::p)) v) →
        ∃ρ',zc fr b N ρ' (((t.clear (PA o q)).take res).addAt o (.row (mx n0 n1) (.own e) (l++m))) ⟨s.ts,H1.set (b+res) (.row 1 (esO++es2) true)⟩∧Mv wo ρ ρ'∧((∀r p,ρ' r p≠some (some id2))∧hat (H1.set (b+res) (.row 1 (esO++es2) true)) id2= .row 1 es2 true)∧ρ' o []=some (some (b+res))∧hat (H1.set (b+res) (.row 1 (esO++es2) true)) (b+res)= .row 1 (esO++es2) true:=by
       intro H1 esO g1 g2 g3 g4 g5;obtain ⟨k3,k4,k5,k6,k7,k8,k9⟩:=g1.fresh (r:=res) (sz:=1) (es:=esO++es2) hav
       have hfr: ∀r p,ρ r p≠some (some (b+res)):=fun r p e=>by
        have hm':res∈t.av:=by simpa using hav
        obtain ⟨f1,_⟩:=h.avl.2 res hm'
        obtain ⟨_,_,_,e2⟩:=h.liv _ _ _ e
        rw [f1] at e2;cases e2
       have hne: ∀ {j},j≠b+res→hat (H1.set (b+res) (.row 1 (esO++es2) true)) j=hat H1 j:=fun hj=>by rw [zp k9,if_neg hj]
       have hkeep: ∀ {r p id},ρ r p=some (some id)→(r,p)≠(o,[])→hat (H1.set (b+res) (.row 1 (esO++es2) true)) id=hat s.hp id:=fun hx hn=>by
        rw [hne (fun e=>by subst e;exact hfr _ _ hx),g3 _ _ _ hx hn]
       obtain ⟨k10,k11⟩:=k3.addAt (o:=o) hfree (q:=U8 ρ o q l.length (b+res)) (ob:= .row (mx n0 n1) (.own e) (l++m)) (fun p p' id e1 e2=>by
         rcases yW e1 with ⟨rfl,a1⟩ | ⟨i1,p1,rfl,b1,a1⟩ | ⟨i1,p1,rfl,b1,a1⟩<;>rcases yW e2 with ⟨rfl,a2⟩ | ⟨i2,p2,rfl,b2,a2⟩ | ⟨i2,p2,rfl,b2,a2⟩
         ·rfl
         ·rw [a1] at a2;exact absurd a2 (hfr _ _)
         ·rw [a1] at a2;exact absurd a2 (hfr _ _)
         ·rw [a2] at a1;exact absurd a1 (hfr _ _)
         ·exact (h.inj _ _ _ _ _ a1 a2).2
         ·exact absurd (h.inj _ _ _ _ _ a1 a2).1 hoq
         ·rw [a2] at a1;exact absurd a1 (hfr _ _)
         ·exact absurd (h.inj _ _ _ _ _ a1 a2).1.symm hoq
         ·have:=(h.inj _ _ _ _ _ a1 a2).2
          injection this with e3 e4;rw [e4,show i1=i2 by omega])
        (fun p id e1=>by
         rcases yW e1 with ⟨rfl,rfl⟩ | ⟨i1,p1,rfl,b1,a1⟩ | ⟨i1,p1,rfl,b1,a1⟩
         ·exact ⟨k6,k7,1,_,k5⟩
         ·refine ⟨fun r p' e2=> ?_,(h.liv _ _ _ a1).1,?_⟩
          ·obtain ⟨z1,z2,z3⟩:=hcut e2
           exact z1 (h.inj _ _ _ _ _ z3 a1).1
          ·obtain ⟨_,sz,es,z⟩:=h.liv _ _ _ a1
           exact ⟨sz,es,by rw [hkeep a1 (by simp)];exact z⟩
         ·refine ⟨fun r p' e2=> ?_,(h.liv _ _ _ a1).1,?_⟩
          ·obtain ⟨z1,z2,z3⟩:=hcut e2
           exact z2 (h.inj _ _ _ _ _ z3 a1).1
          ·obtain ⟨_,sz,es,z⟩:=h.liv _ _ _ a1
           exact ⟨sz,es,by rw [hkeep a1 (by simp)];exact z⟩)
        (fun hx=>by
         refine .inr ⟨b+res,_,by rw [zF];rfl,k5,by rw [List.length_append,List.length_append,g4,y3],fun i w hw=> ?_⟩
         rcases Nat.lt_or_ge i l.length with hi | hi
         ·rw [List.getElem?_append_left hi] at hw;obtain ⟨z,z1,z2,z3⟩:=g5 i w hw
          refine ⟨_,by rw [List.getElem?_append_left (by rw [g4];exact hi)];exact z2,z,by rw [zF,zcM hi];exact z1,rfl,?_⟩
          exact (z3.ext (g2.tr k4.hle) (fun p x hx=>by rw [zF,zcM hi];exact hx) (fun p id hp=>hkeep hp (by simp))).up (qQ _ _).1
         ·rw [List.getElem?_append_right hi] at hw;obtain ⟨ds,z0,z,z1,z2,z3⟩:=y4 _ w hw
          refine ⟨ds,by rw [List.getElem?_append_right (by rw [g4];exact hi),g4];exact z0,z,by rw [zF,JW hi];exact z1,z2,?_⟩
          exact (z3.ext (g2.tr k4.hle) (fun p x hx=>by rw [zF,JW hi];exact hx) (fun p id hp=>hkeep hp (by simp))).up (qQ _ _).2)
       refine ⟨_,k10,Mv.insC hw1 (fun r p hp=>by
        simp only [PA,Bool.or_eq_true] at hp;rcases hp with e | e<;>rw [Nat.eq_of_beq_eq_true e]<;>assumption),⟨fun r p e=> ?_,by rw [hkeep y1 (by simp;exact fun e=>hoq e.symm)];exact y2⟩,by rw [zF];rfl,k5⟩
       by_cases er:r=o
       ·subst er;rw [zF] at e;rcases yW e with ⟨_,a1⟩ | ⟨i1,p1,_,_,a1⟩ | ⟨i1,p1,_,_,a1⟩
        ·rw [a1] at y1;exact hfr _ _ y1
        ·exact hoq (h.inj _ _ _ _ _ a1 y1).1
        ·cases (h.inj _ _ _ _ _ a1 y1).2
       ·rw [qv er] at e;obtain ⟨z1,z2,z3⟩:=hcut e
        exact z2 (h.inj _ _ _ _ _ z3 y1).1
      have hm':res∈t.av:=by simpa using hav
      obtain ⟨f1,f2,_⟩:=h.avl.2 res hm'
      intro call;rcases qe.elts rowO with ⟨x1,x2⟩ | ⟨id,es,x1,x2,x3,x4⟩<;>rcases h.ev hx with ⟨id',sz',es',c1,c2,c3⟩ | ⟨c1,c3⟩<;>rw [x1] at c1<;>cases c1
      ·obtain ⟨ρ',g1,gM,gL,g2,g3⟩:=fin s.hp [] r1 (HLe.refl _) (fun _ _ _ _ _=>rfl) (by rw [x2];rfl) (fun i v hv=>by rw [x2] at hv;cases hv)
       refine ⟨⟨.ref (b+res) 0 es2.length,[(b+res,.row 1 es2 true)],[]⟩,ρ',_,?_,g1.putD hd (yA g2 g3 (by simp)),⟨gM,(fun w hw=>by
        have hw:=List.mem_singleton.mp hw
        subst hw;exact .inr ⟨o,hw1,g2⟩),(fun _ _ _ e=>by rw [c3] at e;cases e),(by
        intro id off len ey;have:id=id2:=by
         rcases h.ev hy with ⟨id',sz',es',c1,c2,c3⟩ | ⟨c1,c3⟩<;>rw [y1] at c1<;>cases c1
         rw [c3] at ey;cases ey;rfl
        subst this;exact ⟨gL.1,(h.liv _ _ _ y1).1,_,_,gL.2⟩)⟩,hr⟩
       rw [zU hsrc,if_neg (by rw [hes2];simp),c3]
       simp only
       rw [if_pos (by
        have e0:(l:List (T S (.own e))).length=0:=by rw [x2];rfl
        rw [e0,Nat.zero_add] at hroom;have e1:es2.length=m.length:=y3
        rw [e1];exact hroom),yI f1 f2]
      ·rw [x2] at c2;cases c2;have hid: ∀r p,yc ρ (PA o q) r p≠some (some id):=fun r p e=>by
        obtain ⟨z1,_,z3⟩:=hcut e
        exact z1 (h.inj _ _ _ _ _ z3 x1).1
       obtain ⟨k1,k2⟩:=r1.kill .dead x2 hid (h.liv _ _ _ x1).1
       have hlt:id<s.hp.length:=yB (by rw [x2];simp)
       obtain ⟨ρ',g1,gM,gL,g2,g3⟩:=fin _ es k1 k2.hle (fun r p j hp hn=>by
        rw [zp hlt,if_neg (fun e=>by
         subst e;have:=h.inj _ _ _ _ _ hp x1
         exact hn (by rw [this.1,this.2]))]) x3 (fun i v hv=>by
        obtain ⟨_,_,z,z1,z2,z3,z4,z5,z6⟩:=qT rowO hv
        rw [x1] at z1;cases z1;rw [x2] at z2;cases z2;exact ⟨z,z4,z5,z6⟩)
       refine ⟨⟨.ref (b+res) 0 (es.length+es2.length),[(id,.dead),(b+res,.row 1 (es++es2) true)],[]⟩,ρ',_,?_,g1.putD hd (yA g2 g3 (by simp)),⟨gM,(fun w hw=>by
        rcases List.mem_cons.mp hw with rfl | hw
        ·exact .inl rfl
        ·have hw:=List.mem_singleton.mp hw
         subst hw;exact .inr ⟨o,hw1,g2⟩),(fun _ _ _ e=>by
        rw [c3] at e
        cases e;have hne:id≠b+res:=fun e=>by rw [←e,x2] at f1;cases f1
        show hat ((s.hp.set id .dead).set (b+res) _) id= .dead
        rw [zp (by simpa using f2),if_neg hne,zp hlt,if_pos rfl]),(by
        intro id off len ey;have:id=id2:=by
         rcases h.ev hy with ⟨id',sz',es',c1,c2,c3⟩ | ⟨c1,c3⟩<;>rw [y1] at c1<;>cases c1
         rw [c3] at ey;cases ey;rfl
        subst this;exact ⟨gL.1,(h.liv _ _ _ y1).1,_,_,gL.2⟩)⟩,hr⟩
       rw [zU hsrc,if_neg (by rw [hes2];simp),c3]
       simp only [Eff.run,x2];rw [if_pos ⟨trivial,trivial,Nat.le_refl _,by
        have e1:es2.length=m.length:=y3
        have e2:es.length=(l:List (T S (.own e))).length:=x3
        rw [e1,e2];exact hroom⟩,List.take_of_length_le (Nat.le_refl _)]
       exact yI f1 f2
     ·cases hr
   ·cases hr
  ·cases hr
 ·cases hr
def Jg (dst:Option Nat)(res:Nat)(sz bytes:Nat)(x y:PX)(t:TS S)(K:TS S→Option α):Option α:=match evK t x,evK t y,Nat.beq sz 1&&t.av.contains res with
 | some .nil,some (.whole q p'),true=>(match p',look t.hp q with
  | [],some (.row n1 (.own e) m)=>cond (List.isEmpty (m:List (T S (.own e)))) none (room (List.length (m:List (T S (.own e)))) bytes (K ((((t.clear (PA q q)).take res).addAt q (.row n1 (.own e) m)).putD dst (.whole q []))))
  | _,_=>none)
 | _,_,_=>none
theorem Vl (h:zc fr b N ρ t s)(hd:yk N dst=true){sz bytes:Nat}{x y:PX}{wo:List Nat}(hwx: ∀v o,evK t x=some v→QO v=some o→wo.contains o=true)(hwy: ∀v o,evK t y=some v→QO v=some o→wo.contains o=true)(hr:Jg dst res sz bytes x y t K=some r):zeA x y wo ρ fr b N s (.append sz bytes x y) res dst (fun t'=>K t'=some r):=by
 unfold Jg at hr;split at hr
 ·rename_i q p' hx hy ha;simp only [Bool.and_eq_true] at ha;obtain ⟨hs,hav⟩:=ha
  obtain rfl:=Nat.eq_of_beq_eq_true hs
  split at hr
  ·rename_i n1 e m hq
   cases hme:List.isEmpty (m:List (T S (.own e))) with
   | true=>rw [hme] at hr;cases hr
   | false=>
    rw [hme] at hr;simp only [cond_false] at hr;unfold room at hr;split at hr
    ·rename_i hroom;have rowQ:zw s.hp n1 (.own e) (ρ q) m:=h.hp _ _ hq
     rcases qe.elts rowQ with ⟨_,rfl⟩ | ⟨id2,es2,y1,y2,y3,y4⟩
     ·cases hme
     have hsrc:(source 1 (y.ev s.ts)).run s.hp=some es2:=by
      rcases h.ev hy with ⟨id',sz',es',c1,c2,c3⟩ | ⟨c1,c3⟩<;>rw [y1] at c1<;>cases c1
      rw [y2] at c2;cases c2;rw [c3];simp only [source,Eff.run,y2];rw [if_pos ⟨trivial,by simp⟩,List.drop_zero,List.take_of_length_le (Nat.le_refl _)];rfl
     have hes2:es2.isEmpty=false:=by
      cases es2 with
      | nil=>cases m with
       | nil=>cases hme
       | cons _ _=>cases y3
      | cons _ _=>rfl
     have r1:zc fr b N (yc ρ (PA q q)) (t.clear (PA q q)) s:=h.clear fun r p hp=>hp
     have hcut: ∀ {r p x},yc ρ (PA q q) r p=some x→r≠q∧ρ r p=some x:=fun hx=>by
      obtain ⟨e1,e2⟩:=zO hx
      simp only [PA,Bool.or_eq_false_iff] at e1;exact ⟨ja e1.1,e2⟩
     have hfree: ∀p,yc ρ (PA q q) q p=none:=fun p=>by simp [yc,PA]
     have hm':res∈t.av:=by simpa using hav
     obtain ⟨f1,f2,_⟩:=h.avl.2 res hm'
     obtain ⟨k3,k4,k5,k6,k7,k8,k9⟩:=r1.fresh (r:=res) (sz:=1) (es:=es2) hav
     have hfr: ∀r p,ρ r p≠some (some (b+res)):=fun r p e=>by
      obtain ⟨_,_,_,e2⟩:=h.liv _ _ _ e
      rw [f1] at e2;cases e2
     have hne: ∀ {j},j≠b+res→hat (s.hp.set (b+res) (.row 1 es2 true)) j=hat s.hp j:=fun hj=>by rw [zp k9,if_neg hj]
     obtain ⟨k10,k11⟩:=k3.addAt (o:=q) hfree (q:=U8 ρ q q 0 (b+res)) (ob:= .row n1 (.own e) m) (fun p p' id e1 e2=>by
       rcases yW e1 with ⟨rfl,a1⟩ | ⟨i1,p1,rfl,b1,a1⟩ | ⟨i1,p1,rfl,b1,a1⟩<;>rcases yW e2 with ⟨rfl,a2⟩ | ⟨i2,p2,rfl,b2,a2⟩ | ⟨i2,p2,rfl,b2,a2⟩
       ·rfl
       ·omega
       ·rw [a1] at a2;exact absurd a2 (hfr _ _)
       ·omega
       ·omega
       ·omega
       ·rw [a2] at a1;exact absurd a1 (hfr _ _)
       ·omega
       ·exact (h.inj _ _ _ _ _ a1 a2).2)
      (fun p id e1=>by
       rcases yW e1 with ⟨rfl,rfl⟩ | ⟨i1,p1,rfl,b1,a1⟩ | ⟨i1,p1,rfl,b1,a1⟩
       ·exact ⟨k6,k7,1,_,k5⟩
       ·omega
       ·refine ⟨fun r p' e2=> ?_,(h.liv _ _ _ a1).1,?_⟩
        ·obtain ⟨z1,z3⟩:=hcut e2
         exact z1 (h.inj _ _ _ _ _ z3 a1).1
        ·obtain ⟨_,sz,es,z⟩:=h.liv _ _ _ a1
         exact ⟨sz,es,by rw [hne (fun e=>by subst e;exact hfr _ _ a1)];exact z⟩)
      (fun hx=>by
       refine .inr ⟨b+res,_,by rw [zF];rfl,k5,y3,fun i w hw=> ?_⟩
       obtain ⟨ds,z0,z,z1,z2,z3⟩:=y4 _ w hw
       refine ⟨ds,z0,z,by rw [zF,JW (Nat.zero_le _)];exact z1,z2,?_⟩
       exact z3.ext k4.hle (fun p x hx=>by rw [zF,JW (Nat.zero_le _)];exact hx) (fun p id hp=>hne (fun e=>by subst e;exact hfr _ _ hp)))
     intro call;refine ⟨⟨.ref (b+res) 0 es2.length,[(b+res,.row 1 es2 true)],[]⟩,_,_,?_,k10.putD hd (yA (by rw [zF];rfl) k5 (by simp)),⟨Mv.insC (hwy _ _ hy rfl) (fun r p hp=>by
      simp only [PA,Bool.or_eq_true] at hp;rcases hp with e | e<;>rw [Nat.eq_of_beq_eq_true e]<;>exact hwy _ _ hy rfl),(fun w hw=>by
      have hw:=List.mem_singleton.mp hw
      subst hw;exact .inr ⟨q,hwy _ _ hy rfl,by rw [zF];rfl⟩),(fun _ _ _ e=>by rw [show x.ev s.ts= .nil from h.ev hx] at e;cases e),(by
      intro id off len ey;have:id=id2:=by
       rcases h.ev hy with ⟨id',sz',es',c1,c2,c3⟩ | ⟨c1,c3⟩<;>rw [y1] at c1<;>cases c1
       rw [c3] at ey;cases ey;rfl
      subst this;refine ⟨fun r p e=> ?_,(h.liv _ _ _ y1).1,_,_,(hne (fun e=>by subst e;exact hfr _ _ y1)).trans y2⟩
      by_cases er:r=q
      ·subst er;rw [zF] at e;rcases yW e with ⟨_,a1⟩ | ⟨i1,p1,_,_,a1⟩ | ⟨i1,p1,_,_,a1⟩
       ·rw [a1] at y1;exact hfr _ _ y1
       ·cases (h.inj _ _ _ _ _ a1 y1).2
       ·cases (h.inj _ _ _ _ _ a1 y1).2
      ·rw [qv er] at e;obtain ⟨z1,z3⟩:=hcut e
       exact er (h.inj _ _ _ _ _ z3 y1).1)⟩,hr⟩
     have c3:x.ev s.ts= .nil:=h.ev hx
     rw [zU hsrc,if_neg (by rw [hes2];simp),c3]
     simp only
     rw [if_pos (by
      have e1:es2.length=(m:List (T S (.own e))).length:=y3
      rw [e1];exact hroom),yI f1 f2]
    ·cases hr
  ·cases hr
 ·cases hr
def Za (dst:Option Nat)(res:Nat)(sz bytes:Nat)(x y:PX)(t:TS S)(K:TS S→Option α):Option α:=match evK t x with
 | some .nil=>Jg dst res sz bytes x y t K
 | _=>Jf dst res sz bytes x y t K
theorem YK (h:zc fr b N ρ t s)(hd:yk N dst=true){sz bytes:Nat}{x y:PX}{wo:List Nat}(hwx: ∀v o,evK t x=some v→QO v=some o→wo.contains o=true)(hwy: ∀v o,evK t y=some v→QO v=some o→wo.contains o=true)(hr:Za dst res sz bytes x y t K=some r):zeA x y wo ρ fr b N s (.append sz bytes x y) res dst (fun t'=>K t'=some r):=by
 unfold Za at hr;split at hr
 ·exact Vl h hd hwx hwy hr
 ·exact Vk h hd hwx hwy hr
theorem U3 (h:zc fr b N ρ t s)(hd:yk N dst=true){sz bytes:Nat}{x y:PX}(hr:Za dst res sz bytes x y t K=some r):Got fr b N s (.append sz bytes x y) res dst (fun t'=>K t'=some r):=
 (YK (wo:=woX t x++woX t y) h hd (fun v o h1 h2=>by
  have:=zbv v o h1 h2
  simp only [List.contains_eq_mem,decide_eq_true_eq,List.mem_append] at this ⊢
  exact .inl this) (fun v o h1 h2=>by
  have:=zbv v o h1 h2
  simp only [List.contains_eq_mem,decide_eq_true_eq,List.mem_append] at this ⊢
  exact .inr this) hr).got
def zbH (dst:Option Nat)(x:PX)(t:TS S)(K:TS S→Option α):Option α:=match evK t x with
 | some (.whole o p)=>(match p,look t.hp o with
  | [],some (.row n (.int .u8) l)=>cond (List.isEmpty (l:List Int)) none (K ((t.forget o).putD dst (.one 1 (.list (.int .u8)) l)))
  | _,_=>none)
 | _=>none
theorem zdT (h:zc fr b N ρ t s)(hd:yk N dst=true){x:PX}(hr:zbH dst x t K=some r):Got fr b N s (.mark x) res dst (fun t'=>K t'=some r):=by
 unfold zbH at hr;split at hr
 ·rename_i o p hx;split at hr
  ·rename_i n l ho
   cases hl:List.isEmpty (l:List Int) with
   | true=>rw [hl] at hr;cases hr
   | false=>
    rw [hl] at hr;simp only [cond_false] at hr;have rowO:zw s.hp n (.int .u8) (ρ o) l:=h.hp _ _ ho
    rcases qe.elts rowO with ⟨x1,x2⟩ | ⟨id,es,x1,x2,x3,x4⟩
    ·rw [x2] at hl;cases hl
    rcases h.ev hx with ⟨id',sz',es',c1,c2,c3⟩ | ⟨c1,c3⟩<;>rw [x1] at c1<;>cases c1
    rw [x2] at c2;cases c2;have hes:es=(l:List Int).map fun z=> [D.int .u8 z]:=Yb (fun z d (h:Cl s.hp n _ d)=>h.sc rfl) (zg.of (by rw [List.length_map];exact x3.symm) (fun i a d ha hd'=>by
     rw [List.getElem?_map,Option.map_eq_some_iff] at ha;obtain ⟨z,hz,rfl⟩:=ha
     obtain ⟨d',h1,h2⟩:=x4 i z hz
     rw [hd'] at h1
     cases h1;exact h2))
    have hid: ∀r p,del ρ o r p≠some (some id):=fun r p e=>by
     obtain ⟨z1,z3⟩:=qA e
     exact z1 (h.inj _ _ _ _ _ z3 x1).1
    obtain ⟨k1,k2⟩:=(h.forget o).kill .dead x2 hid (h.liv _ _ _ x1).1
    intro call;refine ⟨⟨.lst 1 es,[(id,.dead)],[]⟩,_,_,?_,k1.putD hd (VS.mk_lst (Cl.plain rfl ?_)),hr⟩
    ·simp only [opE,c3,Eff.run,x2];rw [if_pos ⟨trivial,trivial,trivial,by rw [hes,jO];rfl,by
      cases es with
      | nil=>cases (l:List Int) with
       | nil=>cases hl
       | cons _ _=>cases hes
      | cons _ _=>simp⟩]
     rfl
    ·rw [hes];exact Nr.rfl' _
  ·cases hr
 ·cases hr
end
section
variable {S:Nat→Type} [Sg:Sig S] {ρ ρ':Rho} {H H':zf} {fr:Fr} {b N:Nat} {t:TS S} {s:St} {α:Type} {pr:yn}
variable {r:α} {K:TS S→Option α}
def P3 (o:Nat):Nat→List Nat→Bool:=fun r p=>Nat.beq r o && !p.isEmpty
def Q3 (o:Nat):Nat→Bool:=fun r=>Nat.beq r o
def QN (ρ:Rho)(o j:Nat)(x:Option Nat):Rho:=fun r p=>match Nat.beq r o,p with
 | true,i::p=>(match Nat.beq i j with
  | true=>at0 x p
  | false=>ρ o (i::p))
 | _,p=>ρ r p
def zgB (a:Nat):PX→Bool
 | .t k => !Nat.beq k a
 | .c _=>true
theorem zfw {a:Nat}{x:PX}{ts:List D}{d:D}(h:zgB a x=true):x.ev (ts.set a d)=x.ev ts:=by
 cases x with
 | t k=>
  have:k≠a:=ja (by simpa [zgB] using h)
  simp [PX.ev,List.getD,List.getElem?_set,Ne.symm this]
 | c _=>rfl
def ziA (N:Nat)(a:Nat)(e:Code)(sz bytes:Nat)(x y:PX)(r1 d:Nat)(u i:PX)(t:TS S)(K:TS S→Option α):Option α:=
 match Nat.beq (W (S:=S) e) sz&&t.av.contains r1 && !zW e&&Nat.blt a N&&Nat.blt d N && !Nat.beq a d&&zgB a u&&zgB a i,evK t x,evK t u,scE t i with
 | true,some (.whole o p),some (.whole o' p'),some (.int _ z)=>(match p,p',Nat.beq o o',look t.hp o with
  | [j],[],true,some (.row n0 (.own c) l)=>(match Vs (.own c) (.own e) l with
   | some l=>(at? (l:List (T S (.own e))) z).bind fun v=>cond (Nat.beq z.toNat j) (zdi t e y fun n m=>room (List.length (v:List (T S e))+m.length) bytes
     (K (((((t.clear2 (P3 o) (Q3 o)).take r1).put a .undef).put d .undef).setO o (.row (mx n0 n) (.own e) (List.set (l:List (T S (.own e))) z.toNat ((v:List (T S e))++m)))))) none
   | none=>none)
  | _,_,_,_=>none)
 | _,_,_,_=>none
theorem XK {o j:Nat}{x:Option Nat}:QN ρ o j x o []=ρ o []:=by simp [QN]
theorem zcO {o j:Nat}{x:Option Nat}(p:List Nat):QN ρ o j x o (j::p)=at0 x p:=by simp [QN]
theorem zcN {o j i:Nat}{x:Option Nat}(h:i≠j)(p:List Nat):QN ρ o j x o (i::p)=ρ o (i::p):=by simp [QN,ZS h]
theorem Zu {o j r:Nat}{p:List Nat}{x y:Option Nat}(h:QN ρ o j x r p=some y):(r=o∧p= [j]∧y=x)∨(ρ r p=some y∧(r=o→ ∀p',p≠j::p')):=by
 unfold QN at h;split at h
 ·rename_i i p' ho;obtain rfl:=Nat.eq_of_beq_eq_true ho
  split at h
  ·rename_i hj;obtain rfl:=Nat.eq_of_beq_eq_true hj
   cases p' with
   | nil=>cases h;exact .inl ⟨rfl,rfl,rfl⟩
   | cons _ _=>cases h
  ·rename_i hj;exact .inr ⟨h,fun _ p'' e=>by injection e with e1 e2;exact ja hj e1⟩
 ·rename_i hn;refine .inr ⟨h,fun e p' e'=> ?_⟩
  subst e e'
  exact hn _ _ (by simp) rfl
theorem Q9 {call:zy}{dst:Option Nat}{op:POp}{res:Nat}{out:Out}(h:(opE call (PX.ev s.ts) (b+res) op).run s.hp=some out) :
  zD call b ⟨dst,op,none,[],res⟩ s=some ⟨yh s.ts dst out.d,out.on s.hp⟩:=by
 unfold zD;simp only [zN,zu,if_true];split
 ·simp [opE,Eff.run] at h
 ·simp only [h,Option.map_some]
theorem zjF (h:zc fr b N ρ t s){o j id1 n0 n:Nat}{e:Code}(he:zW e=false){l:List (T S (.own e))}{v m:List (T S e)}{es:List (List D)}{H2:zf}{x1:Option Nat}{t1:TS S}{ts1:List D}
  (c1:ρ o []=some (some id1)) (c2:hat s.hp id1= .row 1 es true) (c3:es.length=l.length) (hv:l[j]? = some v) (hrow:zw s.hp n0 (.own e) (ρ o) l)
  (r1:zc fr b N (yc ρ (P3 o)) t1 ⟨ts1,H2⟩) (hle:HLe s.hp H2) (hk: ∀r p id,ρ r p=some (some id)→(r,p)≠(o,[j])→hat H2 id=hat s.hp id)
  (hx1: ∀id,x1=some id→(∀r p,(r,p)≠(o,[j])→ρ r p≠some (some id))∧fr id=none∧ ∃sz es,hat H2 id= .row sz es true)
  (hnew: ∀(ρ':Rho) (H':zf) (q:List Nat→Option (Option Nat)),HLe H2 H'→q []=some x1→(∀id,x1=some id→hat H' id=hat H2 id)→zw H' (mx n0 n) e q (v++m)) :
  zc fr b N (QN ρ o j x1) (t1.setO o (.row (mx n0 n) (.own e) (l.set j (v++m)))) ⟨ts1,H2.set id1 (.row 1 (es.set j [yN x1 (v++m).length]) true)⟩:=by
 have hjl:j<l.length:=by
  rcases Nat.lt_or_ge j l.length with k | k
  ·exact k
  ·rw [List.getElem?_eq_none k] at hv;cases hv
 have c2':hat H2 id1= .row 1 es true:=by rw [hk _ _ _ c1 (by simp),c2]
 have hcut: ∀ {r p x},yc ρ (P3 o) r p=some x→ρ r p=some x∧(r=o→p= []):=fun {r p x} hx=>by
  obtain ⟨e1,e2⟩:=zO hx
  refine ⟨e2,fun e=> ?_⟩
  subst e;simp only [P3,Nat.beq_refl,Bool.true_and] at e1
  cases p with
  | nil=>rfl
  | cons _ _=>cases e1
 have r2:zc fr b N (QN ρ o j x1) t1 ⟨ts1,H2⟩:=r1.more (fun r p x hx=>by
   obtain ⟨e1,e2⟩:=hcut hx
   by_cases er:r=o
   ·subst er;rw [e2 rfl] at e1 ⊢
    rw [XK];exact e1
   ·unfold QN;rw [ZS er];exact e1)
  (fun r p r' p' id e1 e2=>by
   rcases Zu e1 with ⟨rfl,rfl,a1⟩ | ⟨a1,a2⟩<;>rcases Zu e2 with ⟨rfl,rfl,b1⟩ | ⟨b1,b2⟩
   ·exact ⟨rfl,rfl⟩
   ·exact absurd b1 ((hx1 id a1.symm).1 _ _ (fun e=>by cases e;exact b2 rfl [] rfl))
   ·exact absurd a1 ((hx1 id b1.symm).1 _ _ (fun e=>by cases e;exact a2 rfl [] rfl))
   ·exact h.inj _ _ _ _ _ a1 b1)
  (fun r p id e1=>by
   rcases Zu e1 with ⟨rfl,rfl,a1⟩ | ⟨a1,a2⟩
   ·exact (hx1 id a1.symm).2
   ·obtain ⟨q1,sz,es',q2⟩:=h.liv _ _ _ a1
    refine ⟨q1,sz,es',?_⟩
    show hat H2 id=_
    rw [hk _ _ _ a1 (fun e=>by cases e;exact a2 rfl [] rfl)];exact q2)
  (fun r p hr=>by
   have hr1:t1.nx≤r:=hr
   have hn:yc ρ (P3 o) r []=none:=r1.nxt _ _ hr1
   have hn2: ∀p,yc ρ (P3 o) r p=none:=fun p=>r1.nxt _ _ hr1
   have hro:r≠o:=fun e=>by
    subst e;simp [yc,P3,c1] at hn
   cases ez:QN ρ o j x1 r p with
   | none=>rfl
   | some y=>
    rcases Zu ez with ⟨rfl,_,_⟩ | ⟨a1,_⟩
    ·exact absurd rfl hro
    ·have:=hn2 p
     simp [yc,P3,ZS hro,a1] at this)
 refine r2.upd (es:=es) (es':=es.set j [yN x1 (v++m).length]) (by rw [XK];exact c1) c2' (by simp) (fun hx e1 e2=> ?_)
 refine .inr ⟨id1,es.set j [yN x1 (v++m).length],by rw [XK];exact c1,e1,List.length_set.trans (c3.trans List.length_set.symm),fun k w hw=> ?_⟩
 rw [List.getElem?_set] at hw;split at hw
 ·rename_i ej;subst ej;simp only [hjl,if_true,Option.some.injEq] at hw;subst hw;refine ⟨_,by rw [List.getElem?_set_self (by rw [c3];exact hjl)],x1,by rw [zcO];rfl,rfl,?_⟩
  refine hnew (QN ρ o j x1) _ _ hx.hle (by rw [zcO];rfl) (fun id hid=>e2 _ (fun ee=> ?_))
  subst ee;exact (hx1 id hid).1 o [] (by simp) c1
 ·rename_i hne;obtain ⟨id2,es2,y1,b1,b2,b3,b4,b5,b6⟩:=qT hrow hw
  rw [c1] at b1;cases b1;rw [c2] at b2;cases b2;refine ⟨_,by rw [List.getElem?_set_ne hne];exact b5,y1,by rw [zcN (Ne.symm hne)];exact b4,rfl,?_⟩
  refine (b6.ext (hle.tr hx.hle) (fun p x hx=>by rw [zcN (Ne.symm hne)];exact hx) (fun p id2 hp=> ?_)).up (qQ _ _).1
  rw [e2 _ (fun ee=>by
   subst ee;have:=(h.inj _ _ _ _ _ hp c1).2
   cases this)]
  exact hk _ _ _ hp (by simp;exact fun e=>absurd e.symm hne)
theorem zhg (h:zc fr b N ρ t s){a d sz bytes r1 r2 r3:Nat}{e:Code}{x y u i:PX}(hr:ziA N a e sz bytes x y r1 d u i t K=some r) :
  Steps pr b [⟨some a,.append sz bytes x y,none,[],r1⟩,⟨some d,.indexAddr 1 u i,none,[],r2⟩,⟨none,.store 1 (.t d) (.t a),none,[],r3⟩] s (fun s'=> ∃t' ρ',K t'=some r∧zc fr b N ρ' t' s'):=by
 unfold ziA at hr;split at hr
 ·rename_i o p o' p' kz z hc hx hu hi;simp only [Bool.and_eq_true,Bool.not_eq_true'] at hc;obtain ⟨⟨⟨⟨⟨⟨⟨hw,hav⟩,ho⟩,haN⟩,hdN⟩,had⟩,hau⟩,hai⟩:=hc
  obtain rfl:=Nat.eq_of_beq_eq_true hw
  have haN':a<N:=by simpa using haN
  have hdN':d<N:=by simpa using hdN
  have had':=ja had
  split at hr
  ·rename_i j n0 c l0 hoo hob;obtain rfl:=Nat.eq_of_beq_eq_true hoo
   split at hr
   ·rename_i l hcl;obtain ⟨hce,rfl⟩:=QE hcl
    cases hce;simp only [Option.bind_eq_some_iff] at hr;obtain ⟨v,hv,hr⟩:=hr
    cases hzj:Nat.beq z.toNat j with
    | false=>rw [hzj] at hr;cases hr
    | true=>
    rw [hzj] at hr;simp only [cond_true] at hr;obtain rfl:=Nat.eq_of_beq_eq_true hzj
    obtain ⟨n,m,src,k1,k2,k3⟩:=JU h hr
    unfold room at k1;split at k1
    ·rename_i hroom;obtain ⟨hz0,hvl,hzl,hzl2⟩:=at?_some hv
     have hrow:zw s.hp n0 (.own e) (ρ o) l0:=h.hp _ _ hob
     obtain ⟨id1,es,x0,c1,c2,c3,c4,c5,c6⟩:=qT hrow hvl
     have rc:zc fr b N (yc ρ (P3 o)) (t.clear2 (P3 o) (Q3 o)) s:=h.clear2 (fun r p hr=>by
      simp only [Q3] at hr;simp only [P3,hr,Bool.false_and])
     have hcutid: ∀r p,yc ρ (P3 o) r p≠none→(r,p)≠(o,[z.toNat]):=fun r p hne ee=>by
      cases ee;exact hne (by simp [yc,P3])
     have hm':r1∈t.av:=by simpa using hav
     obtain ⟨f1,f2,f3⟩:=h.avl.2 r1 hm'
     have hfr: ∀r p,ρ r p≠some (some (b+r1)):=fun r p e=>by
      obtain ⟨_,_,_,e2⟩:=h.liv _ _ _ e
      rw [f1] at e2;cases e2
     have hxv:=h.ev hx
     have huv:=h.ev hu
     have hiv:=h.sc hi
     have eu:u.ev s.ts= .ref id1 0 es.length:=by
      rcases huv with ⟨id',sz',es',q1,q2,q3⟩ | ⟨q1,q3⟩<;>rw [c1] at q1<;>cases q1
      rw [c2] at q2;cases q2;exact q3
     have fin: ∀(H2:zf) (x1:Option Nat) (ws:List (Nat×Blk)),H2=Out.on ⟨yN x1 (v++m).length,ws,[]⟩ s.hp →
       (∀call:zy,(opE call (PX.ev s.ts) (b+r1) (.append (W (S:=S) e) bytes x y)).run s.hp=some ⟨yN x1 (v++m).length,ws,[]⟩) →
       zc fr b N (yc ρ (P3 o)) ((t.clear2 (P3 o) (Q3 o)).take r1) ⟨s.ts,H2⟩→HLe s.hp H2→(∀r p id,ρ r p=some (some id)→(r,p)≠(o,[z.toNat])→hat H2 id=hat s.hp id) →
       (∀id,x1=some id→(∀r p,(r,p)≠(o,[z.toNat])→ρ r p≠some (some id))∧fr id=none∧ ∃sz es,hat H2 id= .row sz es true) →
       (∀(ρ':Rho) (H':zf) (q:List Nat→Option (Option Nat)),HLe H2 H'→q []=some x1→(∀id,x1=some id→hat H' id=hat H2 id)→zw H' (mx n0 n) e q (v++m)) →
       Steps pr b [⟨some a,.append (W (S:=S) e) bytes x y,none,[],r1⟩,⟨some d,.indexAddr 1 u i,none,[],r2⟩,⟨none,.store 1 (.t d) (.t a),none,[],r3⟩] s (fun s'=> ∃t' ρ',K t'=some r∧zc fr b N ρ' t' s'):=by
      intro H2 x1 ws hH2 hrun g1 g2 g3 g4 g5;have c2':hat H2 id1= .row 1 es true:=by rw [g3 _ _ _ c1 (by simp),c2]
      have p1:zD (runN pr 0) b ⟨some a,.append (W (S:=S) e) bytes x y,none,[],r1⟩ s=some ⟨s.ts.set a (yN x1 (v++m).length),H2⟩:=by
       rw [Q9 (hrun _),hH2];rfl
      have hlenA:a<s.ts.length:=by rw [h.len];exact haN'
      have hlenD:d<s.ts.length:=by rw [h.len];exact hdN'
      have p2:zD (runN pr 0) b ⟨some d,.indexAddr 1 u i,none,[],r2⟩ ⟨s.ts.set a (yN x1 (v++m).length),H2⟩=some ⟨(s.ts.set a (yN x1 (v++m).length)).set d (.ptr id1 (z.toNat*1+0)),H2⟩:=by
       rw [Q9 (out:=⟨.ptr id1 (z.toNat*1+0),[],[]⟩)]
       ·rfl
       ·simp only [opE,zfw hau,zfw hai,eu,hiv,Eff.run,c2'];rw [if_pos ⟨hz0,by rw [c3];exact hzl2,trivial⟩,Nat.zero_add]
        rfl
      have ea:(PX.t a).ev ((s.ts.set a (yN x1 (v++m).length)).set d (.ptr id1 (z.toNat*1+0)))=yN x1 (v++m).length:=by
       simp [PX.ev,List.getD,List.getElem?_set,Ne.symm had',hlenA]
      have ed:(PX.t d).ev ((s.ts.set a (yN x1 (v++m).length)).set d (.ptr id1 (z.toNat*1+0)))= .ptr id1 (z.toNat*1+0):=by
       simp [PX.ev,List.getD,List.getElem?_set,hlenD]
      have hcl:=zax x1 (v++m).length
      have p3:zD (runN pr 0) b ⟨none,.store 1 (.t d) (.t a),none,[],r3⟩ ⟨(s.ts.set a (yN x1 (v++m).length)).set d (.ptr id1 (z.toNat*1+0)),H2⟩=some ⟨(s.ts.set a (yN x1 (v++m).length)).set d (.ptr id1 (z.toNat*1+0)),H2.set id1 (.row 1 (es.set z.toNat [yN x1 (v++m).length]) true)⟩:=by
       rw [Q9 (out:=⟨.undef,[(id1,.row 1 (es.set z.toNat [yN x1 (v++m).length]) true)],[]⟩)]
       ·rfl
       ·have:=run_store (s:=⟨(s.ts.set a (yN x1 (v++m).length)).set d (.ptr id1 (z.toNat*1+0)),H2⟩) (x:= .t d) (y:= .t a) (n:=1) ed (by omega) c2' c5 (by simp) (by rw [ea,hcl.2];rfl) (by rw [ea,hcl.2];show (one _&&true)=true;rw [hcl.1];rfl) (runN pr 0) (b+r3)
        rw [ea,hcl.2] at this;exact this
      have g6:=(g1.put haN' (v:= .undef) (d:=yN x1 (v++m).length) trivial).put hdN' (v:= .undef) (d:= .ptr id1 (z.toNat*1+0)) trivial
      exact Steps.cons p1 (Steps.cons p2 (Steps.cons p3 (Steps.nil ⟨_,_,k1,zjF h ho c1 c2 c3 hvl hrow g6 g2 g3 g4 (fun ρ' H' q q1 q2 q3=>by
       have:=g5 ρ' H' q q1 q2 q3
       exact this)⟩)))
     have ex:=zw.els ho c6
     cases hm:m.isEmpty with
     | true=>
      have hm0:m= []:=List.isEmpty_iff.mp hm
      subst hm0;have hsrc:src.isEmpty=true:=by rw [qN k3];exact hm
      have exv:x.ev s.ts=yN x0 v.length:=by
       rcases hxv with ⟨id',sz',es',q1,q2,q3⟩ | ⟨q1,q3⟩<;>rw [c4] at q1<;>cases q1
       ·rcases ex with ⟨w1,w2⟩ | ⟨id,es2,w1,w2,w3⟩
        ·rw [c4] at w1;cases w1
        ·rw [c4] at w1;cases w1;rw [w2] at q2;cases q2;rw [q3,w3.1];rfl
       ·exact q3
      refine fin s.hp x0 [] rfl (fun call=> ?_) (rc.takeR r1) (HLe.refl _) (fun _ _ _ _ _=>rfl) (fun id e=> ?_) (fun ρ' H' q q1 q2 q3=> ?_)
      ·rw [zU k2,if_pos hsrc,exv,List.append_nil]
       cases x0<;>rfl
      ·subst e;refine ⟨fun r p hne e=>hne ?_,h.liv _ _ _ c4⟩
       have:=h.inj _ _ _ _ _ e c4
       rw [this.1,this.2]
      ·rw [List.append_nil];rcases ex with ⟨w1,w2⟩ | ⟨id,es2,w1,w2,w3⟩
       ·rw [c4] at w1;cases w1;rw [w2];exact zw.of_nil q2
       ·rw [c4] at w1;cases w1;exact zw.of_els ho q2 (by rw [q3 _ rfl];exact w2) (w3.mono (qQ _ _).1 q1)
     | false=>
      have hsrc:src.isEmpty=false:=by rw [qN k3];exact hm
      rcases ex with ⟨w1,w2⟩ | ⟨id,es2,w1,w2,w3⟩
      ·have hv0:v= []:=w2
       rw [c4] at w1;cases w1;have exv:x.ev s.ts= .nil:=by
        rcases hxv with ⟨id',sz',es',q1,q2,q3⟩ | ⟨q1,q3⟩<;>rw [c4] at q1<;>cases q1
        exact q3
       obtain ⟨z3,z4,z5,z6,z7,z8,z9⟩:=rc.fresh (r:=r1) (sz:=W (S:=S) e) (es:=src) hav
       refine fin _ (some (b+r1)) [(b+r1,.row (W (S:=S) e) src true)] rfl (fun call=> ?_) z3 z4.hle (fun r p id q1 q2=> ?_) (fun id e=> ?_) (fun ρ' H' q q1 q2 q3=> ?_)
       ·rw [zU k2,if_neg (by rw [hsrc];simp),exv]
        simp only
        rw [if_pos (by rw [k3.1];simpa [hv0] using hroom),yI z8 z9,hv0,List.nil_append,k3.1]
        rfl
       ·show hat (s.hp.set (b+r1) _) id=_
        rw [zp z9,if_neg (fun e=>by subst e;exact hfr _ _ q1)]
       ·cases e;exact ⟨fun r p _ e=>hfr _ _ e,z7,_,_,z5⟩
       ·rw [hv0,List.nil_append];exact zw.of_els ho q2 (by rw [q3 _ rfl];exact z5) (k3.mono (qQ _ _).2 (z4.hle.tr q1))
      ·rw [c4] at w1;cases w1;have exv:x.ev s.ts= .ref id 0 es2.length:=by
        rcases hxv with ⟨id',sz',es',q1,q2,q3⟩ | ⟨q1,q3⟩<;>rw [c4] at q1<;>cases q1
        rw [w2] at q2;cases q2;exact q3
       have hidn: ∀r p,yc ρ (P3 o) r p≠some (some id):=fun r p e=>by
        obtain ⟨e1,e2⟩:=zO e
        have:=h.inj _ _ _ _ _ e2 c4
        exact hcutid r p (by rw [e];simp) (by rw [this.1,this.2])
       obtain ⟨q1,q2⟩:=rc.kill .dead w2 hidn (h.liv _ _ _ c4).1
       obtain ⟨z3,z4,z5,z6,z7,z8,z9⟩:=q1.fresh (r:=r1) (sz:=W (S:=S) e) (es:=es2.take es2.length++src) hav
       have hlt:id<s.hp.length:=yB (by rw [w2];simp)
       refine fin _ (some (b+r1)) [(id,.dead),(b+r1,.row (W (S:=S) e) (es2.take es2.length++src) true)] rfl (fun call=> ?_) z3 (q2.hle.tr z4.hle) (fun r p id' p1 p2=> ?_) (fun id' e=> ?_) (fun ρ' H' q p1 p2 p3=> ?_)
       ·rw [zU k2,if_neg (by rw [hsrc];simp),exv]
        have hl2:es2.length=v.length:=w3.1
        simp only [Eff.run,w2];rw [if_pos ⟨trivial,trivial,Nat.le_refl _,by rw [k3.1,hl2];exact hroom⟩,yI f1 f2,List.length_append,k3.1,hl2]
        rfl
       ·show hat ((s.hp.set id .dead).set (b+r1) _) id'=_
        rw [zp z9,if_neg (fun e=>by subst e;exact hfr _ _ p1)]
        show hat (s.hp.set id .dead) id'=_
        rw [zp hlt,if_neg (fun e=>by
         subst e;have:=h.inj _ _ _ _ _ p1 c4
         exact p2 (by rw [this.1,this.2]))]
       ·cases e;exact ⟨fun r p _ e=>hfr _ _ e,z7,_,_,z5⟩
       ·refine zw.of_els ho p2 (by rw [p3 _ rfl];exact z5) ?_
        rw [List.take_of_length_le (Nat.le_refl _)];exact (w3.mono (qQ _ _).1 ((q2.hle.tr z4.hle).tr p1)).app (k3.mono (qQ _ _).2 ((q2.hle.tr z4.hle).tr p1))
    ·cases k1
   ·cases hr
  ·cases hr
 ·cases hr
end
end Go.Pi
