import Derived.Test.YtghncdeldlknnaaPiY
import Derived.Test.YtghncdeldlknnaaPiQ
import Derived.Test.YtghncdeldlknnaaPiV
import Derived.Test.YtghncdeldlknnaaPiW
import Derived.Carry
/-
  A LAW THAT IS TRUE WHATEVER COMES IN: from the abstract interpreter's run to the row's statement.
-/
set_option linter.all false
namespace Go.Pi
open Go.ChangeShapes Go.WideShapes Go.ChangeAt Go.RowKit
set_option linter.unusedVariables false
section
variable {P : Program} {H : Type} {enc : TypeId × Value → H} {W W' : World}

/-- All that was there stands as it stood. -/
structure Kept (W W' : World) : Prop where
  os : W'.os = W.os
  output : W'.output = W.output
  heap : ∀ b, b < W.heap.size → W'.heap[b]? = W.heap[b]?

theorem Kept.sameAt (h : Kept W W') {p : MemPlace} (hp : p.block < W.heap.size) : W.sameAt W' p := by
  have := h.heap p.block hp
  cases p with
  | cell b off => simp only [MemPlace.block] at this; simp only [World.sameAt, World.cell?, this]
  | map b => simp only [MemPlace.block] at this; simp only [World.sameAt, this]

theorem stays {T : TypeId → Prop} (hk : Kids P T) (hf : ∀ (t e : TypeId), T t → P.underlying t = some (TypeDesc.slice e) → 0 < P.cellsOf e) {sp : Nat → Bool} :
    ∀ {ts : List TypeId} {vs : List Value} {ds : List (DataW H)} {ps : List MemPlace}, (∀ t ∈ ts, T t) → DataW.TrodAll enc P W 0 (fun _ => true) true ts vs ds ps →
      (∀ p ∈ ps, W.sameAt W' p) → (∀ p ∈ ps, sp p.block = true) → DataW.TrodAll enc P W' 0 sp true ts vs ds ps
  | [], vs, ds, ps, _, h, _, _ => by
    obtain ⟨rfl, rfl, rfl⟩ := trodAll_nil h
    exact trodAll_mk0
  | t :: ts, vs, ds, ps, hT, h, h1, h2 => by
    obtain ⟨v, vs', d, ds', p, q, rfl, rfl, rfl, ⟨fuel, g0⟩, g1⟩ := trodAll_cons h
    refine trodAll_cons_mk ⟨fuel, ?_⟩ (stays hk hf (fun t ht => hT t (by simp [ht])) g1 (fun p hp => h1 p (by simp [hp])) (fun p hp => h2 p (by simp [hp])))
    exact DataW.trod_stays hk (fun {t e} ht he => hf t e ht he) (fun h => by cases h) (hT t (by simp)) g0 (fun p hp => h1 p (by simp [hp])) (fun p hp => h2 p (by simp [hp]))

theorem kept_but (h : Kept W W') (may : MemPlace → Prop) : W.keptBut W' may := by
  refine ⟨h.os, h.output, fun i hi => ?_⟩
  rw [h.heap i hi]
  split
  · rename_i e1 e2
    rw [e1] at e2
    injection e2 with e2
    injection e2 with q1 q2 q3
    subst q1; subst q2; subst q3
    exact ⟨rfl, rfl, rfl, fun _ _ => rfl⟩
  · rename_i e1 e2
    rw [e1] at e2
    injection e2 with e2
    injection e2 with q1 q2
    subst q1; subst q2
    exact .inr ⟨rfl, rfl⟩
  · rfl

/-- The law's answer is true, its input reads as it did. -/
theorem post_true {f : Func} {s : ChangeSpec} {apart fresh handsOn again : Bool} {T : TypeId → Prop} {b : TypeId} (hk : Kids P T) (hf : ∀ (t e : TypeId), T t → P.underlying t = some (TypeDesc.slice e) → 0 < P.cellsOf e)
    (hT : ∀ t ∈ f.params.toList, T t) (hb : P.underlying b = some .bool) (hres : f.resultTypes = #[b]) (hvars : s.vars = []) {args : Array Value} {ds gs : List (DataW H)} {before : List MemPlace}
    (hW : DataW.Whole enc P f.params.toList s.vars apart W args.toList ds gs before) (hs : s.fn H (ds ++ gs) = { results := [.lit (.bool true)], args := ds }) (h : Kept W W') (hsz : W.heap.size ≤ W'.heap.size) :
    ChangeSpec.post enc P f s apart fresh handsOn again W args (.bool true) W' := by
  have hW0 := hW
  obtain ⟨p, q, hA, hV, rfl, hfz, hnd⟩ := hW
  rw [hvars] at hV
  obtain ⟨rfl, rfl⟩ := trodVars_none hV
  simp only [List.append_nil] at hfz hnd
  have hlt := hA.lt
  have hres1 : ∀ (bs : Nat) (sp : Nat → Bool) (hd : Bool), DataW.TrodAll enc P W' bs sp hd [b] [.bool true] [.lit (.bool true)] [] := fun bs sp hd =>
    trodAll_cons_mk (shut_bool hb true) trodAll_mk0
  have hr1 : Value.resultList f.resultTypes.size (.bool true) = [.bool true] := by rw [hres]; rfl
  refine ⟨ds, [], p, [], p, [], hW0.imp (fun _ h => h) |> fun h => ?_, ?_, ?_, ?_, kept_but h _, fun _ => ⟨?_, ?_⟩⟩
  · simpa using hW0
  · rw [hr1, hs, hres]; exact hres1 _ _ _
  · rw [hs]
    exact stays hk hf hT hA (fun x hx => h.sameAt (hlt x hx)) (fun x hx => by simpa using hlt x hx)
  · rw [hs, hvars]; exact hV
  · exact ok_one hres rfl (okWide_bool_mk hb true)
  · refine ⟨.lit (.bool true) :: ds, [], p, ⟨p, [], ?_, ?_, by simp, fun bb off hm => ?_, fun ha => hnd ha⟩, fun x hx _ => by simpa using hx⟩
    · rw [hr1, hres]
      have := stays hk hf hT hA (sp := fun _ => true) (W' := W') (fun x hx => h.sameAt (hlt x hx)) (fun _ _ => rfl)
      have k := trodAll_cons_mk (shut_bool hb true) this (enc := enc) (P := P) (w := W') (base := 0) (spare := fun _ => true) (held := true)
      simpa using k
    · rw [hvars]; exact hV
    · have h1 := hfz bb off hm
      have h2 := h.heap bb (hlt _ hm)
      simp only [World.frozen?] at h1 ⊢
      rw [h2]; exact h1

/-- The interpreter's answer is the program's: a run by closed arguments that ends with true. -/
theorem calls_true {fm : Nat → Nat} {pr0 pr : Prog} (hm : P.follows .mixedOrders = true) (hl : Linked P fm pr0) (hu : ∀ f pf', pr f = some pf' → ∃ pf, pr0 f = some pf ∧ pf' = undrawF pf)
    {f : Nat} {args : Array Value} {ds : List D} (hlen : args.size = ds.length)
    (hr : ∀ (j : Nat) (v : Value) (x : D), args[j]? = some v → ds[j]? = some x → RepC fm (fun b => b < W.heap.size) W v x) (h : Runs pr f ds [] (fun d _ => d = .bool true)) :
    Calls P (fm f) args W fun e W' => e = .returned (.bool true) ∧ Kept W W' ∧ W.heap.size ≤ W'.heap.size := by
  obtain ⟨n, d, H', h1, rfl⟩ := h
  have h2 := runN_undraw hu n _ _ _ _ h1
  let B : Base := ⟨fun b => b < W.heap.size, W, fun _ => False⟩
  have hf : ∀ i, hat ([] : Heap) i = .fresh := fun i => by simp [hat]
  have hI : Inv fm B W (fun _ => .fresh) [] := by
    refine ⟨Nat.le_refl _, rfl, rfl, rfl, fun _ _ _ => rfl, ?_, fun _ _ => rfl, ?_, ?_, fun b hb => ⟨id, hb⟩⟩
    · intro id sz es lv hh; rw [hf] at hh; cases hh
    · intro id hh; rw [hf] at hh; cases hh
    · rintro i j b cap sz cap' sz' ⟨_, _, _, hh⟩ _ _ _; rw [hf] at hh; cases hh
  have hok : ∀ b, b < W.heap.size → okB B (fun _ => .fresh) [] W b := fun b hb => ⟨.inl hb, (fun ⟨i, sz, es, cap, sz', hh, _⟩ => by rw [hf] at hh; cases hh), hb⟩
  have := runN_sound hm hl n f ds [] (.bool true) H' h2 B W (fun _ => .fresh) args.toList hI (by simpa using hlen)
    (fun j v x hv hx => .closed ((hr j v x (by simpa using hv) hx).mono fm hok (fun _ _ _ _ h => h)))
  rw [Array.toArray_toList] at this
  refine this.mono ?_
  rintro e W' ⟨v, G', rfl, _, hI', hv⟩
  refine ⟨by rw [hv.inv_bool], ⟨hI'.os, hI'.output, fun b hb => hI'.frame b hb id⟩, hI'.size⟩

/-- An argument of one cell, as data of its type. -/
theorem arg_data {fm : Nat → Nat} {base : Nat} {m : Nat} {t : TypeId} {td : TypeDesc} {v : Value} {d : DataW H} {p : List MemPlace} {sp : Nat → Bool} {hd : Bool} (hp : plainT P m t = true) (hu : P.underlying t = some td) (ha : isRowD td = false)
    (hv : Value.okWide P W .any base t v) (h : DataW.Trod enc P W 0 sp hd t v d p) : ∃ x, TyD P m t [x] ∧ RepC fm (fun b => b < W.heap.size) W v x := by
  obtain ⟨fuel, h⟩ := h
  obtain ⟨ds, h1, h2⟩ := trod_data (ok := fun b => b < W.heap.size) (fun _ _ hb => hb) m t hp fuel _ _ _ h
  have hcells : v.cells.toList = [v] := by
    cases m with
    | zero => simp [plainT] at hp
    | succ m =>
      cases td <;> simp [plainT, hu, isRowD] at hp ha <;> simp only [Value.okWide, hu, Cell.okWide] at hv <;> cases v <;> first | rfl | (simp [Cell.ok, hu] at hv)
  rw [hcells] at h1
  obtain ⟨x, rfl⟩ : ∃ x, ds = [x] := List.length_eq_one_iff.1 (by rw [← h1.1]; rfl)
  obtain ⟨u, a1, a2, a3⟩ := h1.2 0 x rfl
  simp at a1
  subst a1
  exact ⟨x, h2, a3⟩
end
end Go.Pi
