import Derived.Test.YtmfccopfmddllaaGreatPiX
import Derived.WalkKit
import Derived.ProofKit
import Derived.OpenShut
import Derived.JoinedCond
import Derived.Test.YtmfccopfmddllaaGreatPiW
import Derived.Carry
set_option linter.all false
namespace Go.Pi
set_option linter.unusedVariables false
def XD (P:Program):List Field→Nat→Option Nat
 | [],off=>some off
 | f::fs,off=>if f.offset=off then XD P fs (off+P.cellsOf f.type) else none
def jS (P:Program):Nat→TypeId→Bool
 | 0,_=>false
 | m+1,t=>match P.underlying t with
  | some .bool=>true
  | some (.int _)=>true
  | some (.float .f64)=>true
  | some .string=>true
  | some (.slice e)=>jS P m e&&decide (0<P.cellsOf e)
  | some (.struct fs)=>XD P fs.toList 0==some (P.cellsOf t)&&fs.toList.all fun f=>jS P m f.type
  | some (.array n e)=>P.cellsOf t==n*P.cellsOf e&&jS P m e
  | _=>false
def TyD (P:Program):Nat→TypeId→List D→Prop
 | 0,_,_=>False
 | m+1,t,ds=>match P.underlying t with
  | some .bool=> ∃b,ds= [.bool b]
  | some (.int k)=> ∃n,(Lit.int k n).wf=true∧ds= [.int k n]
  | some (.float .f64)=> ∃b,(Lit.float .f64 b).wf=true∧ds= [.flt (some b)]
  | some .string=> ∃s:List UInt8,s.length≤maxLen∧ds= [.str s]
  | some (.slice e)=>ds= [.nil] ∨ ∃es:List (List D),es.length≤maxLen∧ds= [.lst (P.cellsOf e) es]∧ ∀x∈es,x.length=P.cellsOf e∧TyD P m e x
  | some (.struct fs)=>ds.length=P.cellsOf t∧ ∀f∈fs.toList,TyD P m f.type ((ds.drop f.offset).take (P.cellsOf f.type))
  | some (.array n e)=>ds.length=P.cellsOf t∧ ∀i,i<n→TyD P m e ((ds.drop (i*P.cellsOf e)).take (P.cellsOf e))
  | _=>False
theorem mapM_some {α β:Type}{f:α→Option β}: ∀ {l:List α} {ys:List β},l.mapM f=some ys→ys.length=l.length∧ ∀(i:Nat) (x:α),l[i]? = some x→ ∃y,ys[i]? = some y∧f x=some y
 | [],ys,h=>by simp at h;subst h;simp
 | x::l,ys,h=>by
  rw [List.mapM_cons] at h;obtain ⟨y,h1,h⟩:=Option.bind_eq_some_iff.1 h
  obtain ⟨zs,h2,h⟩:=Option.bind_eq_some_iff.1 h
  simp at h;subst h;obtain ⟨k1,k2⟩:=mapM_some h2
  refine ⟨by simp [k1],fun i x' hi=> ?_⟩
  cases i with
  | zero=>simp at hi;subst hi;exact ⟨y,rfl,h1⟩
  | succ i=>simpa using k2 i x' (by simpa using hi)
section
variable {P:Program} {fm:Nat→Nat} {ok:Nat→Prop} {w:World} {H:Type} {enc:TypeId×Value→H} {base:Nat} {spare:Nat→Bool} {held:Bool}
theorem pieces {rep:Value→D→Prop}{Pr:Nat→List D→Prop}: ∀(sz:List (Nat×Nat)) (off:Nat) (cs:List Value),(∀p∈sz,True) →
  (∀(k:Nat) (p:Nat×Nat),sz[k]? = some p→p.1=off+((sz.take k).map (·.2)).sum∧ ∃ds,CR rep ((cs.drop p.1).take p.2) ds∧ds.length=p.2∧Pr k ds) →
  ∃ds,CR rep ((cs.drop off).take ((sz.map (·.2)).sum)) ds∧ ∀(k:Nat) (p:Nat×Nat),sz[k]? = some p→Pr k ((ds.drop (p.1-off)).take p.2)
 | [],off,cs,_,_=>⟨[],⟨by simp,by simp⟩,by simp⟩
 | (o,n)::sz,off,cs,_,h=>by
  obtain ⟨h1,d1,h2,h3,h4⟩:=h 0 (o,n) rfl
  simp at h1;subst h1;obtain ⟨ds,k1,k2⟩:=pieces (rep:=rep) (Pr:=fun k=>Pr (k+1)) sz (o+n) cs (fun _ _=>trivial) (fun k p hk=>by
   obtain ⟨g1,g2⟩:=h (k+1) p (by simpa using hk)
   refine ⟨?_,g2⟩
   simp only [List.take_succ_cons,List.map_cons,List.sum_cons] at g1;omega)
  refine ⟨d1++ds,?_,fun k p hk=> ?_⟩
  ·have e:((cs.drop o).take (((o,n)::sz).map (·.2)).sum)=(cs.drop o).take n++(cs.drop (o+n)).take ((sz.map (·.2)).sum):=by
    simp only [List.map_cons,List.sum_cons];rw [List.take_add,List.drop_drop]
   rw [e];exact h2.append k1
  ·cases k with
   | zero=>
    simp at hk;subst hk;simp only [Nat.sub_self,List.drop_zero];rw [List.take_append_of_le_length (by omega),List.take_of_length_le (by omega)];exact h4
   | succ k=>
    have hk':sz[k]? = some p:=by simpa using hk
    have:=k2 k p hk'
    obtain ⟨g1,_⟩:=h (k+1) p hk
    simp only [List.take_succ_cons,List.map_cons,List.sum_cons] at g1;rw [show p.1-o=d1.length+(p.1-(o+n)) by omega,List.drop_append,←List.drop_drop];simpa using this
theorem VM: ∀ {fs:List Field} {off n:Nat},XD P fs off=some n→n=off+(fs.map fun f=>P.cellsOf f.type).sum ∧
  ∀(k:Nat) (f:Field),fs[k]? = some f→f.offset=off+((fs.take k).map fun f=>P.cellsOf f.type).sum
 | [],off,n,h=>by simp only [XD,Option.some.injEq] at h;subst h;simp
 | f::fs,off,n,h=>by
  simp only [XD] at h;split at h
  ·rename_i ho;obtain ⟨h1,h2⟩:=VM h
   refine ⟨by simp only [List.map_cons,List.sum_cons];omega,fun k g hk=> ?_⟩
   cases k with
   | zero=>simp at hk;subst hk;simpa using ho
   | succ k=>
    have:=h2 k g (by simpa using hk)
    simp only [List.take_succ_cons,List.map_cons,List.sum_cons];omega
  ·cases h
theorem Jt: ∀(l:List Nat) (k n:Nat),l[k]? = some n→(l.take k).sum+n≤l.sum
 | [],k,n,h=>by simp at h
 | x::l,0,n,h=>by simp at h;subst h;simp
 | x::l,k+1,n,h=>by
  have:=Jt l k n (by simpa using h)
  simp only [List.take_succ_cons,List.sum_cons];omega
theorem Vw (hok: ∀b,base≤b→b<w.heap.size→ok b): ∀(m:Nat) (t:TypeId),jS P m t=true→ ∀(fuel:Nat) (cs:List Value) (d:DataW H) (ps:List MemPlace),
  DataW.trod enc P w base spare held fuel t cs=some (d,ps)→ ∃ds,CR (RepC fm ok w) cs ds∧TyD P m t ds
 | 0,t,hp,_,_,_,_,_=>by simp [jS] at hp
 | m+1,t,hp,0,cs,d,ps,h=>by simp [DataW.trod] at h
 | m+1,t,hp,fuel+1,cs,d,ps,h=>by
  have ih:=Vw hok m
  have one1: ∀(v:Value) (x:D),v.oneCell'=true→RepC fm ok w v x→CR (RepC fm ok w) [v] [x]:=by
   intro v x h1 h2;refine ⟨rfl,fun j e hj=> ?_⟩
   cases j with
   | zero=>simp at hj;subst hj;exact ⟨v,rfl,h1,h2⟩
   | succ j=>simp at hj
  cases hu:P.underlying t with
  | none=>simp [jS,hu] at hp
  | some td=>
   cases td<;>simp only [jS,hu,Bool.false_eq_true] at hp<;>unfold DataW.trod at h<;>simp only [hu] at h
   case bool=>
    split at h<;>first | (cases h;done) | (rename_i h';cases h')
    exact ⟨_,one1 _ _ rfl (.bool _),by simp [TyD,hu]⟩
   case int k=>
    split at h<;>first | (cases h;done) | (rename_i h';cases h')
    split at h
    ·rename_i hc;obtain ⟨rfl,hwf⟩:=hc
     exact ⟨_,one1 _ _ rfl (.int _ _),by simp only [TyD,hu];exact ⟨_,hwf,rfl⟩⟩
    ·cases h
   case float k=>
    cases k with
    | f32=>simp at hp
    | f64=>
     split at h<;>first | (cases h;done) | (rename_i h';cases h')
     split at h
     ·rename_i hc;obtain ⟨rfl,hwf⟩:=hc
      exact ⟨_,one1 _ _ rfl (.flt (some _) _ rfl),by simp only [TyD,hu];exact ⟨_,hwf,rfl⟩⟩
     ·cases h
   case string=>
    split at h<;>first | (cases h;done) | (rename_i h';cases h')
    rename_i s;split at h
    ·rename_i hc;refine ⟨[.str s.data.toList],one1 _ _ rfl ?_,by simp only [TyD,hu];exact ⟨_,by simpa using hc,rfl⟩⟩
     have:s=⟨s.data.toList.toArray⟩:=by cases s;simp
     rw [this];exact .str _
    ·cases h
   case slice e=>
    simp only [Bool.and_eq_true,decide_eq_true_eq] at hp;split at h<;>first | (cases h;done) | (rename_i h';cases h')
    ·exact ⟨_,one1 _ _ rfl .nil,by simp [TyD,hu]⟩
    ·rename_i a len cap;split at h
     ·rename_i hc;obtain ⟨hb,hlc,hcm⟩:=hc
      obtain ⟨els,he,h⟩:=Option.bind_eq_some_iff.1 h
      obtain ⟨m1,m2⟩:=mapM_some he
      have hel: ∀i,i<len→ ∃ds cs',w.cells? base (a.add (i*P.cellsOf e)) (P.cellsOf e)=some cs'∧CR (RepC fm ok w) cs' ds∧TyD P m e ds:=by
       intro i hi;obtain ⟨y,_,hy⟩:=m2 i i (by rw [List.getElem?_range hi])
       obtain ⟨cs',h1,h2⟩:=Option.bind_eq_some_iff.1 hy
       obtain ⟨y1,y2⟩:=y
       obtain ⟨ds,h3,h4⟩:=ih e hp.1 fuel cs' y1 y2 h2
       exact ⟨ds,cs',h1,h3,h4⟩
      by_cases h0:len=0
      ·subst h0;exact ⟨[.lst (P.cellsOf e) []],one1 _ _ rfl (.lst0 _ _ _),by simp only [TyD,hu];exact .inr ⟨[],by simp,rfl,by simp⟩⟩
      ·have hf: ∃(f:Nat→List D) (g:Nat→List Value), ∀i,i<len→w.cells? base (a.add (i*P.cellsOf e)) (P.cellsOf e)=some (g i)∧CR (RepC fm ok w) (g i) (f i)∧TyD P m e (f i):=by
        classical
        refine ⟨fun i=>if h:i<len then (hel i h).choose else [],fun i=>if h:i<len then (hel i h).choose_spec.choose else [],fun i hi=> ?_⟩
        simp only [hi,dif_pos];exact (hel i hi).choose_spec.choose_spec
       obtain ⟨f,g,hfg⟩:=hf
       have hsp:a=⟨a.block,a.off,none⟩:=by
        obtain ⟨_,h2,h3⟩:=World.cells?_some (hfg 0 (by omega)).1
        have h4:=h3 0 hp.2
        rw [Nat.zero_mul,show (a.add 0).add 0=a from rfl] at h4;rw [List.getElem?_eq_getElem (by omega)] at h4;obtain ⟨b,o,sp⟩:=a
        cases sp with
        | none=>rfl
        | some x=>
         exfalso
         unfold World.cell? at h4
         split at h4<;>simp at h4
       have hcellsg: ∀i,i<len→(g i).length=P.cellsOf e∧(f i).length=P.cellsOf e∧ ∀j,j<P.cellsOf e→w.cell? ⟨a.block,a.off+(i*P.cellsOf e+j),none⟩=(g i)[j]? := by
        intro i hi;obtain ⟨h1,h2,_⟩:=hfg i hi
        obtain ⟨_,h4,h5⟩:=World.cells?_some h1
        refine ⟨h4,by rw [←h2.1,h4],fun j hj=> ?_⟩
        rw [←h5 j hj,hsp,qw,qw,Nat.add_assoc]
       have hblk:a.block<w.heap.size:=by
        have h4:=(hcellsg 0 (by omega)).2.2 0 hp.2
        rw [List.getElem?_eq_getElem (by rw [(hcellsg 0 (by omega)).1];exact hp.2)] at h4
        unfold World.cell? at h4
        split at h4
        ·rename_i hh;exact (Array.getElem?_eq_some_iff.1 hh).1
        ·cases h4
       have hlen:((List.range len).map f).length=len:=by simp
       have hes: ∀i x,((List.range len).map f)[i]? = some x→i<len∧x=f i:=by
        intro i x hx;rw [List.getElem?_map,Option.map_eq_some_iff] at hx;obtain ⟨k,hk,rfl⟩:=hx
        obtain ⟨h1,h2⟩:=List.getElem?_eq_some_iff.1 hk
        simp at h1 h2;subst h2;exact ⟨h1,rfl⟩
       refine ⟨[.lst (P.cellsOf e) ((List.range len).map f)],one1 _ _ rfl ?_,?_⟩
       ·have hv:Value.slice (some a) len cap=Value.slice (some ⟨a.block,a.off,none⟩) ((List.range len).map f).length cap:=by rw [hlen,←hsp]
        rw [hv];refine .lst1 _ _ _ _ _ (fun i j=>(g i).getD j undef) (by rw [hlen];exact hlc) (hok _ hb hblk) (fun x hx=> ?_) (fun i j x y hi hj=> ?_) (fun i j x y hi hj=> ?_) (fun i j x y hi hj=> ?_)
        ·obtain ⟨i,hi⟩:=List.getElem?_of_mem hx
         obtain ⟨h1,rfl⟩:=hes i x hi
         exact (hcellsg i h1).2.1
        all_goals
         obtain ⟨h1,rfl⟩:=hes i x hi
         obtain ⟨u,q1,q2,q3⟩:=(hfg i h1).2.1.2 j y hj
         simp only [List.getD_eq_getElem?_getD,q1,Option.getD_some]
        ·rw [(hcellsg i h1).2.2 j (by rw [←(hcellsg i h1).1];exact (List.getElem?_eq_some_iff.1 q1).1),q1]
        ·exact q2
        ·exact q3
       ·simp only [TyD,hu];refine .inr ⟨_,by rw [hlen];omega,rfl,fun x hx=> ?_⟩
        obtain ⟨i,hi⟩:=List.getElem?_of_mem hx
        obtain ⟨h1,rfl⟩:=hes i x hi
        exact ⟨(hcellsg i h1).2.1,(hfg i h1).2.2⟩
     ·cases h
   case array n e=>
    simp only [Bool.and_eq_true,beq_iff_eq] at hp;obtain ⟨htot,hpe⟩:=hp
    split at h
    ·rename_i hlen;obtain ⟨xs,hxs,h⟩:=Option.map_eq_some_iff.1 h
     obtain ⟨m1,m2⟩:=mapM_some hxs
     have hsum: ∀k,(((List.range k).map fun i=>P.cellsOf e)).sum=k*P.cellsOf e:=by
      intro k;induction k with
      | zero=>simp
      | succ k ihk=>rw [List.range_succ,List.map_append,List.sum_append,ihk,Nat.add_mul];simp
     obtain ⟨ds,k1,k2⟩:=pieces (rep:=RepC fm ok w) (Pr:=fun k ds=>TyD P m e ds) ((List.range n).map fun i=>(i*P.cellsOf e,P.cellsOf e)) 0 cs (fun _ _=>trivial) (fun k p hk=>by
      rw [List.getElem?_map,Option.map_eq_some_iff] at hk;obtain ⟨i,hi,rfl⟩:=hk
      obtain ⟨hi1,hi2⟩:=List.getElem?_eq_some_iff.1 hi
      simp at hi1 hi2;subst hi2;obtain ⟨y,_,hy⟩:=m2 k k hi
      obtain ⟨ds,h1,h2⟩:=ih e hpe fuel _ y.1 y.2 hy
      refine ⟨?_,ds,h1,?_,h2⟩
      ·rw [←List.map_take,List.take_range,List.map_map,Nat.min_eq_left (by omega),Nat.zero_add];exact (hsum k).symm
      ·rw [←h1.1,List.length_take,List.length_drop,hlen,htot];have:k*P.cellsOf e+P.cellsOf e≤n*P.cellsOf e:=by
        rw [←Nat.succ_mul];exact Nat.mul_le_mul_right _ hi1
       omega)
     have e2:(((List.range n).map fun i=>(i*P.cellsOf e,P.cellsOf e)).map (·.2)).sum=P.cellsOf t:=by rw [List.map_map,htot];exact hsum n
     rw [e2,List.drop_zero,List.take_of_length_le (by omega)] at k1;refine ⟨ds,k1,?_⟩
     simp only [TyD,hu];refine ⟨by rw [←k1.1,hlen],fun i hi=> ?_⟩
     have:=k2 i (i*P.cellsOf e,P.cellsOf e) (by rw [List.getElem?_map,List.getElem?_range hi];rfl)
     simpa using this
    ·cases h
   case struct fs=>
    simp only [Bool.and_eq_true,beq_iff_eq,List.all_eq_true] at hp;obtain ⟨hcon,hall⟩:=hp
    obtain ⟨ctot,cat⟩:=VM hcon
    rw [Nat.zero_add] at ctot;split at h
    ·rename_i hlen;obtain ⟨xs,hxs,h⟩:=Option.map_eq_some_iff.1 h
     obtain ⟨m1,m2⟩:=mapM_some hxs
     obtain ⟨ds,k1,k2⟩:=pieces (rep:=RepC fm ok w) (Pr:=fun k ds=> ∀f,fs.toList[k]? = some f→TyD P m f.type ds) (fs.toList.map fun f=>(f.offset,P.cellsOf f.type)) 0 cs (fun _ _=>trivial) (fun k p hk=>by
      rw [List.getElem?_map,Option.map_eq_some_iff] at hk;obtain ⟨f,hf,rfl⟩:=hk
      have ho:=cat k f hf
      have hle:=Jt (fs.toList.map fun f=>P.cellsOf f.type) k (P.cellsOf f.type) (by rw [List.getElem?_map,hf];rfl)
      obtain ⟨y,_,hy⟩:=m2 k f hf
      obtain ⟨ds,h1,h2⟩:=ih f.type (hall f (List.mem_of_getElem? hf)) fuel _ y.1 y.2 hy
      refine ⟨?_,ds,h1,?_,fun f' hf'=> ?_⟩
      ·rw [ho,←List.map_take];simp only [List.map_map];rfl
      ·rw [←h1.1,List.length_take,List.length_drop,hlen];rw [←List.map_take] at hle;simp only [Nat.zero_add] at ho;omega
      ·rw [hf] at hf';injection hf' with e;rw [←e];exact h2)
     have e2:((fs.toList.map fun f=>(f.offset,P.cellsOf f.type)).map (·.2)).sum=P.cellsOf t:=by rw [ctot,List.map_map];rfl
     rw [e2,List.drop_zero,List.take_of_length_le (by omega)] at k1;refine ⟨ds,k1,?_⟩
     simp only [TyD,hu];refine ⟨by rw [←k1.1,hlen],fun f hf=> ?_⟩
     obtain ⟨k,hk⟩:=List.getElem?_of_mem hf
     have:=k2 k (f.offset,P.cellsOf f.type) (by rw [List.getElem?_map,hk];rfl) f hk
     simpa using this
    ·cases h
end
open Go.ChangeShapes Go.WideShapes Go.ChangeAt Go.RowKit
section
variable {P:Program} {H:Type} {enc:TypeId×Value→H} {W W':World}
structure Kept (W W':World):Prop where
 os:W'.os=W.os
 output:W'.output=W.output
 heap: ∀b,b<W.heap.size→W'.heap[b]? = W.heap[b]?
theorem Kept.sameAt (h:Kept W W'){p:MemPlace}(hp:p.block<W.heap.size):W.sameAt W' p:=by
 have:=h.heap p.block hp
 cases p with
 | cell b off=>simp only [MemPlace.block] at this;simp only [World.sameAt,World.cell?,this]
 | map b=>simp only [MemPlace.block] at this;simp only [World.sameAt,this]
theorem stays {T:TypeId→Prop}(hk:Kids P T)(hf: ∀(t e:TypeId),T t→P.underlying t=some (TypeDesc.slice e)→0<P.cellsOf e){sp:Nat→Bool} :
  ∀ {ts:List TypeId} {vs:List Value} {ds:List (DataW H)} {ps:List MemPlace},(∀t∈ts,T t)→DataW.TrodAll enc P W 0 (fun _=>true) true ts vs ds ps →
   (∀p∈ps,W.sameAt W' p)→(∀p∈ps,sp p.block=true)→DataW.TrodAll enc P W' 0 sp true ts vs ds ps
 | [],vs,ds,ps,_,h,_,_=>by
  obtain ⟨rfl,rfl,rfl⟩:=trodAll_nil h
  exact trodAll_mk0
 | t::ts,vs,ds,ps,hT,h,h1,h2=>by
  obtain ⟨v,vs',d,ds',p,q,rfl,rfl,rfl,⟨fuel,g0⟩,g1⟩:=trodAll_cons h
  refine trodAll_cons_mk ⟨fuel,?_⟩ (stays hk hf (fun t ht=>hT t (by simp [ht])) g1 (fun p hp=>h1 p (by simp [hp])) (fun p hp=>h2 p (by simp [hp])))
  exact DataW.trod_stays hk (fun {t e} ht he=>hf t e ht he) (fun h=>by cases h) (hT t (by simp)) g0 (fun p hp=>h1 p (by simp [hp])) (fun p hp=>h2 p (by simp [hp]))
theorem zga (h:Kept W W')(may:MemPlace→Prop):W.keptBut W' may:=by
 refine ⟨h.os,h.output,fun i hi=> ?_⟩
 rw [h.heap i hi];split
 ·rename_i e1 e2;rw [e1] at e2;injection e2 with e2;injection e2 with q1 q2 q3;subst q1;subst q2;subst q3;exact ⟨rfl,rfl,rfl,fun _ _=>rfl⟩
 ·rename_i e1 e2;rw [e1] at e2;injection e2 with e2;injection e2 with q1 q2;subst q1;subst q2;exact .inr ⟨rfl,rfl⟩
 ·rfl
theorem zdI {f:Func}{s:ChangeSpec}{apart fresh handsOn again:Bool}{T:TypeId→Prop}{b:TypeId}(hk:Kids P T)(hf: ∀(t e:TypeId),T t→P.underlying t=some (TypeDesc.slice e)→0<P.cellsOf e)
  (hT: ∀t∈f.params.toList,T t) (hb:P.underlying b=some .bool) (hres:f.resultTypes = #[b]) (hvars:s.vars= []) {args:Array Value} {ds gs:List (DataW H)} {before:List MemPlace}
  (hW:DataW.Whole enc P f.params.toList s.vars apart W args.toList ds gs before) (hs:s.fn H (ds++gs)= { results:= [.lit (.bool true)],args:=ds }) (h:Kept W W') (hsz:W.heap.size≤W'.heap.size) :
  ChangeSpec.post enc P f s apart fresh handsOn again W args (.bool true) W':=by
 have hW0:=hW
 obtain ⟨p,q,hA,hV,rfl,hfz,hnd⟩:=hW
 rw [hvars] at hV;obtain ⟨rfl,rfl⟩:=trodVars_none hV
 simp only [List.append_nil] at hfz hnd;have hlt:=hA.lt
 have hres1: ∀(bs:Nat) (sp:Nat→Bool) (hd:Bool),DataW.TrodAll enc P W' bs sp hd [b] [.bool true] [.lit (.bool true)] []:=fun bs sp hd=>
  trodAll_cons_mk (shut_bool hb true) trodAll_mk0
 have hr1:Value.resultList f.resultTypes.size (.bool true)= [.bool true]:=by rw [hres];rfl
 refine ⟨ds,[],p,[],p,[],hW0.imp (fun _ h=>h) |> fun h=> ?_,?_,?_,?_,zga h _,fun _=>⟨?_,?_⟩⟩
 ·simpa using hW0
 ·rw [hr1,hs,hres];exact hres1 _ _ _
 ·rw [hs];exact stays hk hf hT hA (fun x hx=>h.sameAt (hlt x hx)) (fun x hx=>by simpa using hlt x hx)
 ·rw [hs,hvars];exact hV
 ·exact ok_one hres rfl (okWide_bool_mk hb true)
 ·refine ⟨.lit (.bool true)::ds,[],p,⟨p,[],?_,?_,by simp,fun bb off hm=> ?_,fun ha=>hnd ha⟩,fun x hx _=>by simpa using hx⟩
  ·rw [hr1,hres];have:=stays hk hf hT hA (sp:=fun _=>true) (W':=W') (fun x hx=>h.sameAt (hlt x hx)) (fun _ _=>rfl)
   have k:=trodAll_cons_mk (shut_bool hb true) this (enc:=enc) (P:=P) (w:=W') (base:=0) (spare:=fun _=>true) (held:=true)
   simpa using k
  ·rw [hvars];exact hV
  ·have h1:=hfz bb off hm
   have h2:=h.heap bb (hlt _ hm)
   simp only [World.frozen?] at h1 ⊢
   rw [h2];exact h1
theorem zb7 {nq:Nat→Bool}{fm:Nat→Nat}{pr0 pr:yn}(hm:P.follows .mixedOrders=true)(hl:UA P fm pr0)(hu: ∀f pf',pr f=some pf'→ ∃pf,pr0 f=some pf∧pf'=jc nq pf)
  {f:Nat} {args:Array Value} {ds:List D} (hlen:args.size=ds.length)
  (hr: ∀(j:Nat) (v:Value) (x:D),args[j]? = some v→ds[j]? = some x→RepC fm (fun b=>b<W.heap.size) W v x) (h:ZL pr f ds [] (fun d _=>d= .bool true)) :
  Calls P (fm f) args W fun e W'=>e= .returned (.bool true)∧Kept W W'∧W.heap.size≤W'.heap.size:=by
 obtain ⟨n,d,H',h1,rfl⟩:=h
 have h2:=Ju hu n _ _ _ _ h1
 let B:qo:=⟨fun b=>b<W.heap.size,W,fun _=>False⟩
 have hf: ∀i,hat ([]:zf) i= .fresh:=fun i=>by simp [hat]
 have hI:Inv fm B W (fun _=> .fresh) []:=by
  refine ⟨Nat.le_refl _,rfl,rfl,rfl,fun _ _ _=>rfl,?_,fun _ _=>rfl,?_,?_,fun b hb=>⟨id,hb⟩⟩
  ·intro id sz es lv hh;rw [hf] at hh;cases hh
  ·intro id hh;rw [hf] at hh;cases hh
  ·rintro i j b cap sz cap' sz' ⟨_,_,_,hh⟩ _ _ _;rw [hf] at hh;cases hh
 have hok: ∀b,b<W.heap.size→okB B (fun _=> .fresh) [] W b:=fun b hb=>⟨.inl hb,(fun ⟨i,sz,es,cap,sz',hh,_⟩=>by rw [hf] at hh;cases hh),hb⟩
 have:=zbX hm hl n f ds [] (.bool true) H' h2 B W (fun _=> .fresh) args.toList hI (by simpa using hlen)
  (fun j v x hv hx=> .closed ((hr j v x (by simpa using hv) hx).mono fm hok (fun _ _ _ _ h=>h)))
 rw [Array.toArray_toList] at this;refine this.mono ?_
 rintro e W' ⟨v,G',rfl,_,hI',hv⟩
 refine ⟨by rw [hv.inv_bool],⟨hI'.os,hI'.output,fun b hb=>hI'.frame b hb id⟩,hI'.size⟩
theorem XX {fm:Nat→Nat}{base:Nat}{m:Nat}{t:TypeId}{td:TypeDesc}{v:Value}{d:DataW H}{p:List MemPlace}{sp:Nat→Bool}{hd:Bool}(hp:jS P m t=true)(hu:P.underlying t=some td)(ha:qh td=false)
  (hv:Value.okWide P W .any base t v) (h:DataW.Trod enc P W 0 sp hd t v d p): ∃x,TyD P m t [x]∧RepC fm (fun b=>b<W.heap.size) W v x:=by
 obtain ⟨fuel,h⟩:=h
 obtain ⟨ds,h1,h2⟩:=Vw (ok:=fun b=>b<W.heap.size) (fun _ _ hb=>hb) m t hp fuel _ _ _ h
 have hcells:v.cells.toList= [v]:=by
  cases m with
  | zero=>simp [jS] at hp
  | succ m=>
   cases td<;>simp [jS,hu,qh] at hp ha<;>simp only [Value.okWide,hu,Cell.okWide] at hv<;>cases v<;>first | rfl | (simp [Cell.ok,hu] at hv)
 rw [hcells] at h1;obtain ⟨x,rfl⟩: ∃x,ds= [x]:=List.length_eq_one_iff.1 (by rw [←h1.1];rfl)
 obtain ⟨u,a1,a2,a3⟩:=h1.2 0 x rfl
 simp at a1;subst a1;exact ⟨x,h2,a3⟩
end
end Go.Pi
