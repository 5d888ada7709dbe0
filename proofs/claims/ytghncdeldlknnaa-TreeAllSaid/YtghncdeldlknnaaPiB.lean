import Derived.Test.YtghncdeldlknnaaPiA
import Derived.Laws.AppendOwn
/-
  WHAT A DATUM OF THE ABSTRACT INTERPRETER SAYS OF A VALUE IN A WORLD (RepC, Rep), what its rows say of memory (Inv), and what stays when memory turns (Adv).
-/
set_option linter.all false
namespace Go.Pi
set_option linter.unusedVariables false

theorem add_mk (b o k : Nat) : (⟨b, o, none⟩ : Addr).add k = ⟨b, o + k, none⟩ := by unfold Addr.add; split <;> simp_all

inductive GS where
  | fresh
  | row (b cap sz : Nat)
abbrev Gh := Nat → GS
def upd (G : Gh) (i : Nat) (s : GS) : Gh := fun j => if j = i then s else G j
theorem upd_same (G : Gh) (i : Nat) (s : GS) : upd G i s i = s := by simp [upd]
theorem upd_ne (G : Gh) {i j : Nat} (s : GS) (h : j ≠ i) : upd G i s j = G j := by simp [upd, h]

def GS.le : GS → GS → Prop
  | .fresh, _ => True
  | .row b c z, s => s = .row b c z
theorem GS.le_refl (s : GS) : s.le s := by cases s <;> simp [GS.le]
theorem GS.le_trans {a b c : GS} (h : a.le b) (k : b.le c) : a.le c := by
  cases a <;> cases b <;> simp_all [GS.le]
theorem GS.ne_fresh {s : GS} (h : s ≠ .fresh) : ∃ b c z, s = .row b c z := by
  cases s with
  | fresh => exact absurd rfl h
  | row b c z => exact ⟨b, c, z, rfl⟩
def gle (G G' : Gh) : Prop := ∀ i, (G i).le (G' i)
theorem gle_refl (G : Gh) : gle G G := fun i => GS.le_refl _
theorem gle_trans {G G' G'' : Gh} (h : gle G G') (k : gle G' G'') : gle G G'' := fun i => GS.le_trans (h i) (k i)

def nanBits (b : Nat) : Prop := FloatKind.f64.format.order b b = none

section
variable (fm : Nat → Nat)

inductive RepC (ok : Nat → Prop) (w : World) : Value → D → Prop where
  | undef (v : Value) : RepC ok w v .undef
  | skip : RepC ok w Go.undef .skip
  | bool (b : Bool) : RepC ok w (.bool b) (.bool b)
  | int (k : IntKind) (n : Int) : RepC ok w (.int k n) (.int k n)
  | flt (b : Nat) : RepC ok w (.float .f64 b) (.flt b)
  | nan (b : Nat) (h : nanBits b) : RepC ok w (.float .f64 b) .nan
  | str (s : List UInt8) : RepC ok w (.string ⟨s.toArray⟩) (.str s)
  | nil : RepC ok w (.slice none 0 0) .nil
  | lst0 (sz : Nat) (A : Option Addr) (c : Nat) : RepC ok w (.slice A 0 c) (.lst sz [])
  | lst1 (sz : Nat) (es : List (List D)) (b o c : Nat) (u : Nat → Nat → Value) (hc : es.length ≤ c) (hok : ok b)
      (hlen : ∀ e ∈ es, e.length = sz)
      (hcell : ∀ (i j : Nat) (e : List D) (d : D), es[i]? = some e → e[j]? = some d → w.cell? ⟨b, o + (i * sz + j), none⟩ = some (u i j))
      (hone : ∀ (i j : Nat) (e : List D) (d : D), es[i]? = some e → e[j]? = some d → (u i j).oneCell' = true)
      (hrep : ∀ (i j : Nat) (e : List D) (d : D), es[i]? = some e → e[j]? = some d → RepC ok w (u i j) d) :
      RepC ok w (.slice (some ⟨b, o, none⟩) es.length c) (.lst sz es)
  | fptr (cs : List D) (b o : Nat) (u : Nat → Value) (hok : ok b)
      (hcell : ∀ (j : Nat) (d : D), cs[j]? = some d → w.cell? ⟨b, o + j, none⟩ = some (u j))
      (hone : ∀ (j : Nat) (d : D), cs[j]? = some d → (u j).oneCell' = true)
      (hrep : ∀ (j : Nat) (d : D), cs[j]? = some d → RepC ok w (u j) d) :
      RepC ok w (.pointer (some ⟨b, o, none⟩)) (.fptr cs)
  | nilp : RepC ok w (.pointer none) .nilp
  | agg (cs : List D) (vs : List Value) (hl : vs.length = cs.length)
      (hone : ∀ v ∈ vs, v.oneCell' = true)
      (hrep : ∀ (j : Nat) (d : D) (v : Value), cs[j]? = some d → vs[j]? = some v → RepC ok w v d) :
      RepC ok w (.agg vs.toArray) (.agg cs)
  | fn (f : Nat) : RepC ok w (.func (.func (fm f)) #[] #[]) (.fn f)

theorem RepC.mono {ok ok' : Nat → Prop} {w w' : World} (hk : ∀ b, ok b → ok' b) (hw : ∀ b o v, ok b → w.cell? ⟨b, o, none⟩ = some v → w'.cell? ⟨b, o, none⟩ = some v)
    {v : Value} {d : D} (h : RepC fm ok w v d) : RepC fm ok' w' v d := by
  induction h with
  | undef v => exact .undef v
  | skip => exact .skip
  | bool b => exact .bool b
  | int k n => exact .int k n
  | flt b => exact .flt b
  | nan b h => exact .nan b h
  | str s => exact .str s
  | nil => exact .nil
  | lst0 sz A c => exact .lst0 sz A c
  | lst1 sz es b o c u hc hok hlen hcell hone hrep ih =>
    exact .lst1 sz es b o c u hc (hk _ hok) hlen (fun i j e d h1 h2 => hw _ _ _ hok (hcell i j e d h1 h2)) hone ih
  | fptr cs b o u hok hcell hone hrep ih => exact .fptr cs b o u (hk _ hok) (fun j d h => hw _ _ _ hok (hcell j d h)) hone ih
  | nilp => exact .nilp
  | agg cs vs hl hone hrep ih => exact .agg cs vs hl hone ih
  | fn f => exact .fn f

/-- What a reference to a row is, that begins at element off of a block of so many elements. -/
def RefV (v : Value) (b cap sz off len : Nat) : Prop :=
  off + len ≤ cap ∧ ∃ (a : Addr), v = .slice (some a) len (cap - off) ∧ (a = ⟨b, off * sz, none⟩ ∨ cap - off = 0)

inductive Rep (G : Gh) (ok : Nat → Prop) (w : World) : Value → D → Prop where
  | closed {v : Value} {d : D} (h : RepC fm ok w v d) : Rep G ok w v d
  | ref (id off len : Nat) (v : Value) (hf : G id ≠ .fresh) (h : ∀ b cap sz, G id = .row b cap sz → RefV v b cap sz off len) (h1 : v.oneCell' = true) : Rep G ok w v (.ref id off len)
  | ptr (id off : Nat) (v : Value) (hf : G id ≠ .fresh) (h : ∀ b cap sz, G id = .row b cap sz → v = .pointer (some ⟨b, off, none⟩)) (h1 : v.oneCell' = true) : Rep G ok w v (.ptr id off)
  | agg (cs : List D) (vs : List Value) (hl : vs.length = cs.length)
      (hone : ∀ v ∈ vs, v.oneCell' = true)
      (hrep : ∀ (j : Nat) (d : D) (v : Value), cs[j]? = some d → vs[j]? = some v → Rep G ok w v d) :
      Rep G ok w (.agg vs.toArray) (.agg cs)
  | tup (ds : List D) (vs : List Value) (hl : vs.length = ds.length)
      (hrep : ∀ (j : Nat) (d : D) (v : Value), ds[j]? = some d → vs[j]? = some v → Rep G ok w v d) :
      Rep G ok w (.tuple vs.toArray) (.tup ds)

theorem Rep.mono {G G' : Gh} {ok ok' : Nat → Prop} {w w' : World} (hg : gle G G') (hk : ∀ b, ok b → ok' b)
    (hw : ∀ b o v, ok b → w.cell? ⟨b, o, none⟩ = some v → w'.cell? ⟨b, o, none⟩ = some v)
    {v : Value} {d : D} (h : Rep fm G ok w v d) : Rep fm G' ok' w' v d := by
  induction h with
  | closed h => exact .closed (h.mono fm hk hw)
  | ref id off len v hf h h1 =>
    refine .ref id off len v ?_ ?_ h1
    · intro e
      obtain ⟨b, c, z, hG⟩ := GS.ne_fresh hf
      have := hg id
      rw [e, hG] at this
      simp [GS.le] at this
    · intro b cap sz e
      obtain ⟨b', c', z', hG⟩ := GS.ne_fresh hf
      have := hg id
      rw [e, hG] at this
      simp [GS.le] at this
      obtain ⟨rfl, rfl, rfl⟩ := this
      exact h _ _ _ hG
  | ptr id off v hf h h1 =>
    refine .ptr id off v ?_ ?_ h1
    · intro e
      obtain ⟨b, c, z, hG⟩ := GS.ne_fresh hf
      have := hg id
      rw [e, hG] at this
      simp [GS.le] at this
    · intro b cap sz e
      obtain ⟨b', c', z', hG⟩ := GS.ne_fresh hf
      have := hg id
      rw [e, hG] at this
      simp [GS.le] at this
      obtain ⟨rfl, rfl, rfl⟩ := this
      exact h _ _ _ hG
  | agg cs vs hl hone hrep ih => exact .agg cs vs hl hone ih
  | tup ds vs hl hrep ih => exact .tup ds vs hl ih

/-- The cells of a row, as its block has them. -/
structure RowOk (rep : Value → D → Prop) (w : World) (sz : Nat) (es : List (List D)) (b cap : Nat) : Prop where
  blk : ∃ (c : Array Value) (T : TypeId), w.heap[b]? = some (.cells c T (0, 0)) ∧ c.size = cap * sz ∧
    ∀ (i j : Nat) (e : List D) (d : D), es[i]? = some e → e[j]? = some d → ∃ u, c[i * sz + j]? = some u ∧ u.oneCell' = true ∧ rep u d
  len : es.length ≤ cap
  cap : cap ≤ maxLen
  each : ∀ e ∈ es, e.length = sz

def isRow (H : Heap) (i : Nat) : Prop := ∃ sz es lv, hat H i = .row sz es lv

structure Base where
  A : Nat → Prop
  W0 : World
  L0 : Nat → Prop

/-- The blocks that may be written. -/
def Lv (G : Gh) (H : Heap) (b : Nat) : Prop := ∃ id sz es cap sz', hat H id = .row sz es true ∧ G id = .row b cap sz'
/-- The blocks that closed data may lie in. -/
def okB (B : Base) (G : Gh) (H : Heap) (w : World) (b : Nat) : Prop := (B.A b ∨ B.L0 b ∨ B.W0.heap.size ≤ b) ∧ ¬ Lv G H b ∧ b < w.heap.size

structure Inv (B : Base) (w : World) (G : Gh) (H : Heap) : Prop where
  size : B.W0.heap.size ≤ w.heap.size
  os : w.os = B.W0.os
  tape : w.tape = B.W0.tape
  output : w.output = B.W0.output
  frame : ∀ b, b < B.W0.heap.size → ¬ B.L0 b → w.heap[b]? = B.W0.heap[b]?
  rows : ∀ id sz es lv, hat H id = .row sz es lv → ∃ b cap, G id = .row b cap sz ∧ (B.L0 b ∨ B.W0.heap.size ≤ b) ∧ RowOk (Rep fm G (okB B G H w) w) w sz es b cap
  fresh : ∀ id, hat H id = .fresh → G id = .fresh
  dead : ∀ id, hat H id = .dead → G id ≠ .fresh
  inj : ∀ i j b cap sz cap' sz', isRow H i → isRow H j → G i = .row b cap sz → G j = .row b cap' sz' → i = j
  A0 : ∀ b, B.A b → ¬ B.L0 b ∧ b < B.W0.heap.size

/-- From one state to a later one: what was told of data stays. -/
structure Adv (B : Base) (w : World) (G : Gh) (H : Heap) (w' : World) (G' : Gh) (H' : Heap) : Prop where
  gh : gle G G'
  ok : ∀ b, okB B G H w b → okB B G' H' w' b
  cell : ∀ b o v, okB B G H w b → w.cell? ⟨b, o, none⟩ = some v → w'.cell? ⟨b, o, none⟩ = some v

variable {fm}
theorem Adv.refl (B : Base) (w : World) (G : Gh) (H : Heap) : Adv B w G H w G H := ⟨gle_refl _, fun _ h => h, fun _ _ _ _ h => h⟩
theorem Adv.trans {B : Base} {w w1 w2 : World} {G G1 G2 : Gh} {H H1 H2 : Heap} (h : Adv B w G H w1 G1 H1) (k : Adv B w1 G1 H1 w2 G2 H2) : Adv B w G H w2 G2 H2 :=
  ⟨gle_trans h.gh k.gh, fun b hb => k.ok b (h.ok b hb), fun b o v hb hc => k.cell b o v (h.ok b hb) (h.cell b o v hb hc)⟩
theorem Adv.rep {B : Base} {w w' : World} {G G' : Gh} {H H' : Heap} (h : Adv B w G H w' G' H') {v : Value} {d : D} (hr : Rep fm G (okB B G H w) w v d) :
    Rep fm G' (okB B G' H' w') w' v d := hr.mono fm h.gh h.ok h.cell
theorem Adv.repC {B : Base} {w w' : World} {G G' : Gh} {H H' : Heap} (h : Adv B w G H w' G' H') {v : Value} {d : D} (hr : RepC fm (okB B G H w) w v d) :
    RepC fm (okB B G' H' w') w' v d := hr.mono fm h.ok h.cell
theorem RowOk.mono {rep rep' : Value → D → Prop} {w w' : World} {sz : Nat} {es : List (List D)} {b cap : Nat} (h : RowOk rep w sz es b cap)
    (hr : ∀ v d, rep v d → rep' v d) (hb : w'.heap[b]? = w.heap[b]?) : RowOk rep' w' sz es b cap := by
  obtain ⟨⟨c, T, h1, h2, h3⟩, h4, h5, h6⟩ := h
  exact ⟨⟨c, T, by rw [hb]; exact h1, h2, fun i j e d he hd => let ⟨u, a1, a2, a3⟩ := h3 i j e d he hd; ⟨u, a1, a2, hr _ _ a3⟩⟩, h4, h5, h6⟩

/-! ### the heap's words -/
theorem hat_set (H : Heap) (i j : Nat) (b : Blk) : hat (H.set i b) j = if i = j ∧ i < H.length then b else hat H j := by
  unfold hat
  simp only [List.getD_eq_getElem?_getD, List.getElem?_set]
  by_cases h : i = j
  · subst h
    by_cases hl : i < H.length
    · simp [hl]
    · simp [hl]
  · simp [h]
theorem hat_set_same {H : Heap} {i : Nat} (h : i < H.length) (b : Blk) : hat (H.set i b) i = b := by simp [hat_set, h]
theorem hat_set_ne (H : Heap) {i j : Nat} (h : i ≠ j) (b : Blk) : hat (H.set i b) j = hat H j := by simp [hat_set, h]
theorem hat_lt {H : Heap} {i : Nat} (h : hat H i ≠ .fresh) : i < H.length := by
  unfold hat at h
  by_cases hl : i < H.length
  · exact hl
  · exact absurd (by simp [List.getD_eq_getElem?_getD, List.getElem?_eq_none (by omega : H.length ≤ i)]) h
theorem hat_modify (H : Heap) (i j : Nat) : hat (H.modify i freeze) j = if i = j then freeze (hat H j) else hat H j := by
  unfold hat
  simp only [List.getD_eq_getElem?_getD, List.getElem?_modify]
  by_cases h : i = j
  · subst h
    cases hx : H[i]? <;> simp [freeze]
  · simp [h]
theorem hat_append_fresh (H : Heap) (n j : Nat) : hat (H ++ List.replicate n .fresh) j = hat H j := by
  unfold hat
  simp only [List.getD_eq_getElem?_getD, List.getElem?_append]
  by_cases h : j < H.length
  · simp [h]
  · simp only [h, if_false]
    rw [List.getElem?_eq_none (by omega : H.length ≤ j), List.getElem?_replicate]
    split <;> rfl
end

/-! ### reading a value off its datum -/
section
variable {fm : Nat → Nat} {G : Gh} {ok : Nat → Prop} {w : World} {v : Value}
theorem Rep.inv_bool {b : Bool} (h : Rep fm G ok w v (.bool b)) : v = .bool b := by cases h with | closed h => cases h; rfl
theorem Rep.inv_int {k : IntKind} {n : Int} (h : Rep fm G ok w v (.int k n)) : v = .int k n := by cases h with | closed h => cases h; rfl
theorem Rep.inv_skip (h : Rep fm G ok w v .skip) : v = undef := by cases h with | closed h => cases h; rfl
theorem Rep.inv_flt {b : Nat} (h : Rep fm G ok w v (.flt b)) : v = .float .f64 b := by cases h with | closed h => cases h; rfl
theorem Rep.inv_str {s : List UInt8} (h : Rep fm G ok w v (.str s)) : v = .string ⟨s.toArray⟩ := by cases h with | closed h => cases h; rfl
theorem Rep.inv_nil (h : Rep fm G ok w v .nil) : v = .slice none 0 0 := by cases h with | closed h => cases h; rfl
theorem Rep.inv_nilp (h : Rep fm G ok w v .nilp) : v = .pointer none := by cases h with | closed h => cases h; rfl
theorem Rep.inv_fn {f : Nat} (h : Rep fm G ok w v (.fn f)) : v = .func (.func (fm f)) #[] #[] := by cases h with | closed h => cases h; rfl
theorem Rep.inv_ref {id off len b cap sz : Nat} (h : Rep fm G ok w v (.ref id off len)) (hg : G id = .row b cap sz) : RefV v b cap sz off len := by
  cases h with
  | closed h => cases h
  | ref _ _ _ _ hf h _ => exact h _ _ _ hg
theorem Rep.inv_ptr {id off b cap sz : Nat} (h : Rep fm G ok w v (.ptr id off)) (hg : G id = .row b cap sz) : v = .pointer (some ⟨b, off, none⟩) := by
  cases h with
  | closed h => cases h
  | ptr _ _ _ hf h => exact h _ _ _ hg
theorem Rep.ref_fresh {id off len : Nat} (h : Rep fm G ok w v (.ref id off len)) : G id ≠ .fresh := by
  cases h with
  | closed h => cases h
  | ref _ _ _ _ hf h _ => exact hf
theorem Rep.ptr_fresh {id off : Nat} (h : Rep fm G ok w v (.ptr id off)) : G id ≠ .fresh := by
  cases h with
  | closed h => cases h
  | ptr _ _ _ hf h => exact hf
theorem Rep.inv_agg {cs : List D} (h : Rep fm G ok w v (.agg cs)) : ∃ vs : List Value, v = .agg vs.toArray ∧ vs.length = cs.length ∧ (∀ v ∈ vs, v.oneCell' = true) ∧
    ∀ (j : Nat) (d : D) (v : Value), cs[j]? = some d → vs[j]? = some v → Rep fm G ok w v d := by
  cases h with
  | closed h => cases h with
    | agg _ vs hl hone hrep => exact ⟨vs, rfl, hl, hone, fun j d v h1 h2 => .closed (hrep j d v h1 h2)⟩
  | agg _ vs hl hone hrep => exact ⟨vs, rfl, hl, hone, hrep⟩
theorem Rep.inv_tup {ds : List D} (h : Rep fm G ok w v (.tup ds)) : ∃ vs : List Value, v = .tuple vs.toArray ∧ vs.length = ds.length ∧
    ∀ (j : Nat) (d : D) (v : Value), ds[j]? = some d → vs[j]? = some v → Rep fm G ok w v d := by
  cases h with
  | closed h => cases h
  | tup _ vs hl hrep => exact ⟨vs, rfl, hl, hrep⟩
theorem Rep.inv_lst {sz : Nat} {es : List (List D)} (h : Rep fm G ok w v (.lst sz es)) : RepC fm ok w v (.lst sz es) := by
  cases h with | closed h => exact h
theorem Rep.inv_fptr {cs : List D} (h : Rep fm G ok w v (.fptr cs)) : RepC fm ok w v (.fptr cs) := by
  cases h with | closed h => exact h
/-- What is one cell to the datum is one to the value. -/
theorem Rep.one {d : D} (h : Rep fm G ok w v d) (hd : one d = true) : v.oneCell' = true := by
  cases h with
  | closed h => cases h <;> first | rfl | (simp [Pi.one] at hd)
  | ref id off len v hf h h1 => exact h1
  | ptr id off v hf h h1 => exact h1
  | agg => simp [Pi.one] at hd
  | tup => simp [Pi.one] at hd
end
end Go.Pi
