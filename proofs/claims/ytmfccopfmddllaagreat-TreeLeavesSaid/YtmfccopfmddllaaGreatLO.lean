import Derived.Test.YtmfccopfmddllaaGreatKZ
import Derived.Test.YtmfccopfmddllaaGreatLX
set_option linter.all false
namespace Go.Pi.Z
abbrev e (i:Nat)(c:Code):Nat×VSh:=(i,.b (.one 1 c))
abbrev p (i j:Nat):Nat×VSh:=(i,.b (.ptr j 0))
end Go.Pi.Z
namespace Go.Pi
set_option linter.unusedVariables false
abbrev LB (P Q:Type):Type:=P→Option (P ⊕ Q)
def Ok {α:Type}(m:Option α)(R:α→Prop):Prop:= ∃a,m=some a∧R a
theorem Ok.some {α:Type}{a:α}{R:α→Prop}(h:R a):Ok (Option.some a) R:=⟨a,rfl,h⟩
theorem Ok.bind {α β:Type}{m:Option α}{f:α→Option β}{Q:α→Prop}{R:β→Prop}(h:Ok m Q)(k: ∀a,Q a→Ok (f a) R):Ok (m.bind f) R:=by
 obtain ⟨a,e,r⟩:=h
 rw [e];exact k a r
theorem Ok.eq {α β:Type}{m:Option α}{a:α}{f:α→Option β}{R:β→Prop}(h:m=Option.some a)(k:Ok (f a) R):Ok (m.bind f) R:=by
 rw [h];exact k
theorem Ok.cond {α:Type}{b:Bool}{x y:Option α}{R:α→Prop}(h:b=true→Ok x R)(k:b=false→Ok y R):Ok (bif b then x else y) R:=by
 cases b
 ·exact k rfl
 ·exact h rfl
theorem Ok.dec {α:Type}{p:Prop}[Decidable p]{x y:Option α}{R:α→Prop}(h:p→Ok x R)(k: ¬p→Ok y R):Ok (bif decide p then x else y) R:=by
 by_cases hp:p
 ·rw [decide_eq_true hp];exact h hp
 ·rw [decide_eq_false hp];exact k hp
theorem Ok.tt {α:Type}{b:Bool}{x y:Option α}{R:α→Prop}(h:b=true)(k:Ok x R):Ok (bif b then x else y) R:=by rw [h];exact k
theorem Ok.ff {α:Type}{b:Bool}{x y:Option α}{R:α→Prop}(h:b=false)(k:Ok y R):Ok (bif b then x else y) R:=by rw [h];exact k
theorem Ok.iter {P Q:Type}{f:P→Option (P ⊕ Q)}{R:Q→Prop}(I:P→Prop)(m:P→Nat)
  (h: ∀p,I p→Ok (f p) fun x=>match x with | .inl p'=>I p'∧m p'<m p | .inr q=>R q): ∀(k:Nat) (p:P),I p→m p<k→Ok (Go.Pi.iter k f p) R
 | 0,_,_,hk=>by omega
 | k+1,p,hp,hk=>by
  obtain ⟨x,e,r⟩:=h p hp
  rcases x with p' | q
  ·obtain ⟨q,h4,h5⟩:=Ok.iter I m h k p' r.1 (by have:=r.2;omega)
   exact ⟨q,by simp only [Go.Pi.iter,e,Option.bind_some];exact h4,h5⟩
  ·exact ⟨q,by simp only [Go.Pi.iter,e,Option.bind_some],r⟩
theorem wrap64 {z:Int}(h: -9223372036854775808≤z)(h2:z<9223372036854775808):IntKind.i64.wrap z=z:=by
 have e:IntKind.i64.wrap z=if z % 18446744073709551616≥9223372036854775808 then z % 18446744073709551616-18446744073709551616 else z % 18446744073709551616:=by
  simp [IntKind.wrap,IntKind.bits,IntKind.signed]
 rw [e];split<;>omega
def w64 (z:Int):Int:=IntKind.i64.wrap z
theorem zl {z:Int}(h: -9223372036854775808≤z)(h2:z<9223372036854775808):w64 z=z:=wrap64 h h2
theorem zhM {α:Type}{l:List α}{z:Int}(h:0≤z)(h2:z<l.length): ∃v,at? l z=some v∧l[z.toNat]? = some v:=by
 unfold at?
 rw [if_pos h];have:z.toNat<l.length:=by omega
 exact ⟨l[z.toNat],by rw [List.getElem?_eq_getElem this],by rw [List.getElem?_eq_getElem this]⟩
theorem Ok.at {α β:Type}{l:List α}{z:Int}{f:α→Option β}{R:β→Prop}(h:0≤z)(h2:z<l.length)(k: ∀v,v∈l→l[z.toNat]? = Option.some v→Ok (f v) R):Ok ((at? l z).bind f) R:=by
 obtain ⟨v,h3,h4⟩:=zhM h h2
 exact Ok.eq h3 (k v (List.mem_of_getElem? h4) h4)
theorem Ok.get {α β:Type}{l:List α}{z:Nat}{f:α→Option β}{R:β→Prop}(h2:z<l.length)(k: ∀v,v∈l→l[z]? = Option.some v→Ok (f v) R):Ok ((List.get?Internal l z).bind f) R:=by
 have e:List.get?Internal l z=l[z]? := rfl
 refine Ok.eq (e.trans (List.getElem?_eq_getElem h2)) (k _ (List.getElem_mem h2) (List.getElem?_eq_getElem h2))
theorem zg3 {α:Type}{n b:Nat}{m:Option α}(h:n≤100000)(h2:b≤1000):room n b m=m:=by
 unfold room;rw [if_pos];have:n*b≤100000*1000:=Nat.mul_le_mul h h2
 simp only [roomy];omega
theorem Ok.room {α:Type}{n b:Nat}{m:Option α}{R:α→Prop}(h:n≤100000)(h2:b≤1000)(k:Ok m R):Ok (Go.Pi.room n b m) R:=by rw [zg3 h h2];exact k
theorem Ok.nz {α:Type}{z:Int}{m:Option α}{R:α→Prop}(h:z≠0)(k:Ok m R):Ok (Go.Pi.nz z m) R:=by unfold Go.Pi.nz;rw [if_neg h];exact k
theorem Ok.inr {α:Type}{z:Int}{n:Nat}{m:Option α}{R:α→Prop}(h:0≤z)(h2:z<n)(k:Ok m R):Ok (Go.Pi.inr? z n m) R:=by unfold Go.Pi.inr?;rw [if_pos ⟨h,h2⟩];exact k
theorem Ok.hi {β:Type}{n:Nat}{z:Int}{f:Nat→Option β}{R:β→Prop}(h:0≤z)(h2:z≤n)(k:Ok (f z.toNat) R):Ok ((hi? n z).bind f) R:=by
 unfold hi?
 rw [if_pos ⟨h,h2⟩];exact k
theorem bs {α β:Type}{m:Option α}{f:α→Option β}{a:α}{r:Option β}(h:m=some a)(k:f a=r):m.bind f=r:=by rw [h];exact k
end Go.Pi
