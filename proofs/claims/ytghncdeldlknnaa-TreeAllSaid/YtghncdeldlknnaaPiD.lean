import Derived.Test.YtghncdeldlknnaaPiC
import Derived.Deep.AppendSrc
import Derived.Deep.MidRow
import Derived.Great.BuildSlice
import Derived.Laws.MakeOwn
import Derived.Laws.IdiomStrings
import Derived.Laws.BytesArg
import Derived.Laws.StructEq
import Derived.Laws.Slices
import Derived.Laws.Pointers
import Derived.DeepKeys
import Derived.Orders
/-
  HOW THE MODEL's OPERATIONS ARE SAID IN THE ABSTRACT INTERPRETER's (TrX, TrOp), and cells of values beside cells of data.
-/
set_option linter.all false
namespace Go.Pi
set_option linter.unusedVariables false

/-! ### cells beside data -/
/-- So many cells, each as its datum says. -/
def CR (rep : Value → D → Prop) (c : List Value) (ds : List D) : Prop :=
  c.length = ds.length ∧ ∀ (j : Nat) (d : D), ds[j]? = some d → ∃ u, c[j]? = some u ∧ u.oneCell' = true ∧ rep u d
theorem CR.mono {rep rep' : Value → D → Prop} (h : ∀ v d, rep v d → rep' v d) {c : List Value} {ds : List D} (hc : CR rep c ds) : CR rep' c ds :=
  ⟨hc.1, fun j d hj => let ⟨u, a, b, e⟩ := hc.2 j d hj; ⟨u, a, b, h _ _ e⟩⟩
theorem CR.one {rep : Value → D → Prop} {c : List Value} {ds : List D} (hc : CR rep c ds) : ∀ v ∈ c, v.oneCell' = true := by
  intro v hv
  obtain ⟨j, hj, rfl⟩ := List.getElem_of_mem hv
  obtain ⟨u, h1, h2, _⟩ := hc.2 j _ (List.getElem?_eq_getElem (show j < ds.length by rw [← hc.1]; exact hj))
  rw [List.getElem?_eq_getElem hj] at h1
  injection h1 with h1
  rw [h1]; exact h2
theorem CR.get {rep : Value → D → Prop} {c : List Value} {ds : List D} (hc : CR rep c ds) {j : Nat} {v : Value} {d : D} (hv : c[j]? = some v) (hd : ds[j]? = some d) : rep v d := by
  obtain ⟨u, h1, _, h3⟩ := hc.2 j d hd
  rw [hv] at h1
  injection h1 with h1
  rw [h1]; exact h3
theorem CR.take {rep : Value → D → Prop} {c : List Value} {ds : List D} (hc : CR rep c ds) (n : Nat) : CR rep (c.take n) (ds.take n) := by
  refine ⟨by simp [hc.1], fun j d hj => ?_⟩
  rw [List.getElem?_take] at hj
  split at hj
  · rename_i h
    obtain ⟨u, a, b, e⟩ := hc.2 j d hj
    exact ⟨u, by rw [List.getElem?_take, if_pos h]; exact a, b, e⟩
  · cases hj
theorem CR.drop {rep : Value → D → Prop} {c : List Value} {ds : List D} (hc : CR rep c ds) (n : Nat) : CR rep (c.drop n) (ds.drop n) := by
  refine ⟨by simp [hc.1], fun j d hj => ?_⟩
  rw [List.getElem?_drop] at hj
  obtain ⟨u, a, b, e⟩ := hc.2 _ d hj
  exact ⟨u, by rw [List.getElem?_drop]; exact a, b, e⟩
theorem CR.append {rep : Value → D → Prop} {c c' : List Value} {ds ds' : List D} (hc : CR rep c ds) (hc' : CR rep c' ds') : CR rep (c ++ c') (ds ++ ds') := by
  refine ⟨by simp [hc.1, hc'.1], fun j d hj => ?_⟩
  rw [List.getElem?_append] at hj ⊢
  rw [hc.1]
  split at hj
  · rename_i h; rw [if_pos h]; exact hc.2 j d hj
  · rename_i h; rw [if_neg h]; exact hc'.2 _ d hj
theorem CR.splice {rep : Value → D → Prop} {c m : List Value} {ds ms : List D} (hc : CR rep c ds) (hm : CR rep m ms) (off : Nat) :
    CR rep (c.take off ++ m ++ c.drop (off + m.length)) (Pi.splice ds off ms) := by
  unfold Pi.splice
  rw [hm.1]
  exact ((hc.take off).append hm).append (hc.drop _)

theorem rep_cells {fm : Nat → Nat} {G : Gh} {ok : Nat → Prop} {w : World} {v : Value} {d : D} (h : Rep fm G ok w v d) (h1 : (cellsOf d).all one = true) :
    CR (Rep fm G ok w) v.cells.toList (cellsOf d) := by
  cases d with
  | agg cs =>
    obtain ⟨vs, rfl, hl, hone, hr⟩ := h.inv_agg
    refine ⟨by simpa [Value.cells, cellsOf] using hl, fun j d hj => ?_⟩
    simp only [cellsOf] at hj
    have hj' : j < vs.length := by rw [hl]; exact (List.getElem?_eq_some_iff.1 hj).1
    exact ⟨vs[j], by simp [Value.cells, List.getElem?_eq_getElem hj'], hone _ (List.getElem_mem hj'), hr j d _ hj (List.getElem?_eq_getElem hj')⟩
  | _ =>
    simp only [cellsOf, List.all_cons, List.all_nil, Bool.and_true] at h1
    have hv := h.one h1
    have hcs : v.cells.toList = [v] := by cases v <;> first | rfl | (simp [Value.oneCell'] at hv)
    rw [hcs]
    refine ⟨rfl, fun j d hj => ?_⟩
    simp only [cellsOf] at hj
    cases j with
    | zero => simp at hj; subst hj; exact ⟨v, rfl, hv, h⟩
    | succ j => simp at hj

/-- Cells set one behind the other. -/
theorem foldl_set (off : Nat) : ∀ (l : List Value) (k : Nat) (c : Array Value), off + k + l.length ≤ c.size →
    ((l.zipIdx k).foldl (fun (cs : Array Value) (x : Value × Nat) => cs.setIfInBounds (off + x.2) x.1) c).toList = c.toList.take (off + k) ++ l ++ c.toList.drop (off + k + l.length)
  | [], k, c, _ => by simp
  | v :: l, k, c, h => by
    simp only [List.length_cons] at h
    rw [List.zipIdx_cons, List.foldl_cons, foldl_set off l (k + 1) _ (by simp; omega)]
    apply List.ext_getElem?
    intro j
    simp only [Array.toList_setIfInBounds, List.getElem?_append, List.length_append, List.length_take, List.length_set, List.getElem?_take, List.getElem?_drop, List.getElem?_set, Array.length_toList, List.length_cons, List.getElem?_cons]
    have e1 : min (off + (k + 1)) c.size = off + k + 1 := by omega
    have e2 : min (off + k) c.size = off + k := by omega
    simp only [e1, e2]
    by_cases h1 : j < off + k
    · simp [show j < off + k + 1 by omega, show j < off + (k + 1) by omega, show j < off + k + (l.length + 1) by omega, h1, show j < off + k + 1 + l.length by omega, show ¬ off + k = j by omega]
    · by_cases h2 : j = off + k
      · subst h2
        simp [show off + k < off + (k + 1) by omega, show off + k < c.size by omega, show off + k < off + k + 1 + l.length by omega]
      · by_cases h3 : j < off + k + 1 + l.length
        · obtain ⟨m, rfl⟩ : ∃ m, j = off + k + 1 + m := ⟨j - (off + k + 1), by omega⟩
          simp [show ¬ off + k + 1 + m < off + k + 1 by omega, show off + k + 1 + m < off + k + (l.length + 1) by omega, h1, h3, show off + k + 1 + m - (off + k) = m + 1 by omega, show off + k + 1 + m - (off + k + 1) = m by omega]
        · simp [h3, show ¬ j < off + k + (l.length + 1) by omega, show ¬ off + k = off + (k + 1) + l.length + (j - (off + k + 1 + l.length)) by omega]
          congr 1; omega

theorem zipIdx_foldl (off : Nat) (l c : Array Value) (h : off + l.size ≤ c.size) :
    (l.zipIdx.foldl (fun (cs : Array Value) (x : Value × Nat) => cs.setIfInBounds (off + x.2) x.1) c).toList = c.toList.take off ++ l.toList ++ c.toList.drop (off + l.size) := by
  have := foldl_set off l.toList 0 c (by simpa using h)
  rw [← Array.foldl_toList, Array.toList_zipIdx]
  simpa using this

section
variable (fm : Nat → Nat)
def ClosedV (v : Value) (d : D) : Prop := ∀ ok w, RepC fm ok w v d

inductive TrX : Operand → PX → Prop where
  | tmp (t : Nat) : TrX (.tmp t) (.t t)
  | const (v : Value) (d : D) (h : ClosedV fm v d) : TrX (.const v) (.c d)
  | func (f p : Nat) (h : fm p = f) : TrX (.func f) (.c (.fn p))

inductive TrXs : List Operand → List PX → Prop where
  | nil : TrXs [] []
  | cons {x : Operand} {px : PX} {xs : List Operand} {pxs : List PX} (h : TrX fm x px) (hs : TrXs xs pxs) : TrXs (x :: xs) (px :: pxs)
end

/-- The slots. -/
def TsR (rep : Value → D → Prop) (tmps : Array Value) (ts : List D) : Prop :=
  ts.length = tmps.size ∧ ∀ (i : Nat) (d : D), ts[i]? = some d → ∃ v, tmps[i]? = some v ∧ rep v d
theorem TsR.mono {rep rep' : Value → D → Prop} (h : ∀ v d, rep v d → rep' v d) {tmps : Array Value} {ts : List D} (hc : TsR rep tmps ts) : TsR rep' tmps ts :=
  ⟨hc.1, fun j d hj => let ⟨u, a, b⟩ := hc.2 j d hj; ⟨u, a, h _ _ b⟩⟩
theorem TsR.put {rep : Value → D → Prop} {tmps : Array Value} {ts : List D} (h : TsR rep tmps ts) (i : Nat) {v : Value} {d : D} (hv : rep v d) : TsR rep (tmps.setIfInBounds i v) (ts.set i d) := by
  refine ⟨by simp [h.1], fun j e hj => ?_⟩
  rw [List.getElem?_set] at hj
  by_cases hi : i = j
  · subst hi
    simp only [if_true] at hj
    split at hj
    · rename_i hl
      injection hj with hj
      subst hj
      exact ⟨v, by rw [Array.getElem?_setIfInBounds]; simp [← h.1, hl], hv⟩
    · cases hj
  · rw [if_neg hi] at hj
    obtain ⟨u, h1, h2⟩ := h.2 j e hj
    exact ⟨u, by rw [Array.getElem?_setIfInBounds, if_neg hi]; exact h1, h2⟩
theorem TsR.getD {rep : Value → D → Prop} (hu : ∀ v, rep v .undef) {tmps : Array Value} {ts : List D} (h : TsR rep tmps ts) (i : Nat) : rep (tmps.getD i undef) (ts.getD i .undef) := by
  rw [List.getD_eq_getElem?_getD]
  cases hi : ts[i]? with
  | none => exact hu _
  | some d =>
    obtain ⟨v, h1, h2⟩ := h.2 i d hi
    have : tmps.getD i undef = v := by rw [Array.getD_eq_getD_getElem?, h1]; rfl
    rw [this]; exact h2

section
variable {fm : Nat → Nat} {G : Gh} {ok : Nat → Prop} {w : World} {a : Act} {ts : List D}
theorem ev_rep (h : TsR (Rep fm G ok w) a.tmps ts) {x : Operand} {px : PX} (hx : TrX fm x px) : Rep fm G ok w (a.eval x) (px.ev ts) := by
  cases hx with
  | tmp t => exact h.getD (fun v => .closed (.undef v)) t
  | const v d h => exact .closed (h _ _)
  | func f p h => subst h; exact .closed (.fn p)
end

/-- The operation comes to a value and a world. -/
def OpOk (P : Program) (o : Oper) (a : Act) (w : World) (K : Value → World → Prop) : Prop :=
  ∀ (next : Act → World → Prop) (Q : Exit → Act → World → Prop), (∀ v w', K v w' → next (a.put o.dst v) w') → o.wp P a w next Q
section
variable {P : Program} {o : Oper} {a : Act} {w w' : World} {K : Value → World → Prop}
theorem opOk_val {v : Value} (h : (execOp a.eval o).run P w = .ok (.value v) w') (k : K v w') : OpOk P o a w K := by
  intro next Q hn
  unfold Oper.wp
  rw [h]
  exact hn v w' k
theorem opOk_skip (h : (execOp a.eval o).run P w = .ok .skip w') (k : K undef w') : OpOk P o a w K := by
  intro next Q hn
  unfold Oper.wp
  rw [h]
  exact hn _ w' k
theorem OpOk.mono {K' : Value → World → Prop} (h : OpOk P o a w K) (hk : ∀ v w', K v w' → K' v w') : OpOk P o a w K' :=
  fun next Q hn => h next Q fun v w' k => hn v w' (hk v w' k)
end
end Go.Pi
