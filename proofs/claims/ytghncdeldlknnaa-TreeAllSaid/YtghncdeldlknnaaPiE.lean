import Derived.Test.YtghncdeldlknnaaPiD
/-
  MEMORY: what a row of data says of cells, read and written.
-/
set_option linter.all false
namespace Go.Pi
set_option linter.unusedVariables false

theorem rangeAt_sub {w : World} {b o : Nat} {cs : List Value} (h : w.rangeAt b o cs) (j n : Nat) : w.rangeAt b (o + j) ((cs.drop j).take n) := by
  intro k v hv
  rw [List.getElem?_take] at hv
  split at hv
  · rw [List.getElem?_drop] at hv
    have := h (j + k) v hv
    rwa [show o + (j + k) = o + j + k by omega] at this
  · cases hv

section
variable {rep : Value → D → Prop} {w : World} {sz : Nat} {es : List (List D)} {b cap : Nat}
/-- An element's cells. -/
theorem RowOk.range (h : RowOk rep w sz es b cap) {i : Nat} {e : List D} (he : es[i]? = some e) : ∃ cs, CR rep cs e ∧ w.rangeAt b (i * sz) cs := by
  obtain ⟨⟨c, T, h1, h2, h3⟩, h4, h5, h6⟩ := h
  have hl : e.length = sz := h6 e (List.mem_of_getElem? he)
  have hi : i < es.length := (List.getElem?_eq_some_iff.1 he).1
  have hb : i * sz + sz ≤ c.size := by
    rw [h2, ← Nat.succ_mul]
    exact Nat.mul_le_mul_right _ (by omega)
  refine ⟨(c.toList.drop (i * sz)).take sz, ⟨by simp; omega, ?_⟩, ?_⟩
  · intro j d hj
    have hjl : j < sz := by rw [← hl]; exact (List.getElem?_eq_some_iff.1 hj).1
    obtain ⟨u, a1, a2, a3⟩ := h3 i j e d he hj
    exact ⟨u, by rw [List.getElem?_take, if_pos hjl, List.getElem?_drop]; simpa using a1, a2, a3⟩
  · intro j v hv
    rw [List.getElem?_take] at hv
    split at hv
    · rw [List.getElem?_drop] at hv
      rw [cell_of_row w b (i * sz + j) c T (0, 0) h1]
      simpa using hv
    · cases hv

/-- Elements' cells, one behind the other. -/
theorem RowOk.ranges (h : RowOk rep w sz es b cap) {off len : Nat} (hl : off + len ≤ es.length) :
    ∃ cs : List Value, cs.length = len * sz ∧ w.rangeAt b (off * sz) cs ∧ (∀ v ∈ cs, v.oneCell' = true) ∧
      ∀ (i j : Nat) (e : List D) (d : D), ((es.drop off).take len)[i]? = some e → e[j]? = some d → ∃ u, cs[i * sz + j]? = some u ∧ u.oneCell' = true ∧ rep u d := by
  obtain ⟨⟨c, T, h1, h2, h3⟩, h4, h5, h6⟩ := h
  have hb : off * sz + len * sz ≤ c.size := by
    rw [h2, ← Nat.add_mul]
    exact Nat.mul_le_mul_right _ (by omega)
  have hget : ∀ (i j : Nat) (e : List D) (d : D), ((es.drop off).take len)[i]? = some e → e[j]? = some d → ∃ u, ((c.toList.drop (off * sz)).take (len * sz))[i * sz + j]? = some u ∧ u.oneCell' = true ∧ rep u d := by
    intro i j e d he hd
    rw [List.getElem?_take] at he
    split at he
    · rename_i hi
      rw [List.getElem?_drop] at he
      have hle : e.length = sz := h6 e (List.mem_of_getElem? he)
      have hj : j < sz := by rw [← hle]; exact (List.getElem?_eq_some_iff.1 hd).1
      obtain ⟨u, a1, a2, a3⟩ := h3 _ j e d he hd
      refine ⟨u, ?_, a2, a3⟩
      have hlt : i * sz + j < len * sz := by
        have : (i + 1) * sz ≤ len * sz := Nat.mul_le_mul_right _ (by omega)
        rw [Nat.succ_mul] at this
        omega
      rw [List.getElem?_take, if_pos hlt, List.getElem?_drop, show off * sz + (i * sz + j) = (off + i) * sz + j by rw [Nat.add_mul]; omega]
      simpa using a1
    · cases he
  refine ⟨(c.toList.drop (off * sz)).take (len * sz), by simp; omega, ?_, ?_, hget⟩
  · intro j v hv
    rw [List.getElem?_take] at hv
    split at hv
    · rw [List.getElem?_drop] at hv
      rw [cell_of_row w b (off * sz + j) c T (0, 0) h1]
      simpa using hv
    · cases hv
  · intro v hv
    obtain ⟨k, hk, rfl⟩ := List.getElem_of_mem hv
    have hk' : k < len * sz := by simp at hk; omega
    have hsz : 0 < sz := by
      rcases Nat.eq_zero_or_pos sz with h | h
      · subst h; simp at hk'
      · exact h
    have hi : k / sz < len := (Nat.div_lt_iff_lt_mul hsz).2 hk'
    have hj : k % sz < sz := Nat.mod_lt _ hsz
    have hlt : off + k / sz < es.length := by omega
    have hle : es[off + k / sz].length = sz := h6 _ (List.getElem_mem hlt)
    obtain ⟨u, a1, a2, _⟩ := hget (k / sz) (k % sz) es[off + k / sz] (es[off + k / sz][k % sz]'(by omega))
      (by rw [List.getElem?_take, if_pos hi, List.getElem?_drop, List.getElem?_eq_getElem hlt]) (List.getElem?_eq_getElem _)
    rw [Nat.div_add_mod' k sz, List.getElem?_eq_getElem hk] at a1
    injection a1 with a1
    rw [a1]; exact a2

/-- A store into an element. -/
theorem RowOk.write {P : Program} (h : RowOk rep w sz es b cap) {off : Nat} {e : List D} (he : es[off / sz]? = some e) {vs : List Value} {ds : List D} (hv : CR rep vs ds)
    (hn : off % sz + ds.length ≤ e.length) :
    ∃ w' : World, (∀ t : TypeId, (P.info? t).map (·.size) = some ds.length → ∀ v : Value, v.cells.toList = vs → (storeVar t ⟨b, off, none⟩ v).run P w = .ok () w') ∧
      w'.heap.size = w.heap.size ∧ w'.os = w.os ∧ w'.tape = w.tape ∧ w'.output = w.output ∧ (∀ k, k ≠ b → w'.heap[k]? = w.heap[k]?) ∧
      RowOk rep w' sz (es.set (off / sz) (Pi.splice e (off % sz) ds)) b cap := by
  obtain ⟨⟨c, T, h1, h2, h3⟩, h4, h5, h6⟩ := h
  have hle : e.length = sz := h6 e (List.mem_of_getElem? he)
  have hi : off / sz < es.length := (List.getElem?_eq_some_iff.1 he).1
  have hoff : off / sz * sz + off % sz = off := Nat.div_add_mod' off sz
  have hb : off / sz * sz + sz ≤ c.size := by
    rw [h2, ← Nat.succ_mul]
    exact Nat.mul_le_mul_right _ (by omega)
  have hfit : off + vs.length ≤ c.size := by rw [hv.1]; omega
  refine ⟨w.setRow b (c.toList.take off ++ vs ++ c.toList.drop (off + vs.length)).toArray, ?_, size_setRow _ _ _, rfl, rfl, rfl, fun k hk => setRow_other w b k _ hk, ?_⟩
  · intro t ht v hcs
    have hst := run_storeCells_at P b off T vs 0 c w h1 (by simpa using hfit) hv.one
    simp only [Nat.add_zero] at hst
    cases hq : P.info? t with
    | none => simp [hq] at ht
    | some it =>
      have hs : it.size = ds.length := by simpa [hq] using ht
      have hvs : v.cells.size = vs.length := by rw [← hcs]; simp
      simp [storeVar, sizeOf, typeInfo, hq, hs, hvs, hv.1, hcs, hst]
  · refine ⟨⟨_, T, setRow_heap w b c _ T (0, 0) h1, ?_, ?_⟩, by simpa using h4, h5, ?_⟩
    · simp only [List.size_toArray, List.length_append, List.length_take, List.length_drop, Array.length_toList]
      omega
    · intro i j e' d he' hd
      have hjs : ∀ e'', es[i]? = some e'' → e''.length = sz := fun e'' h => h6 e'' (List.mem_of_getElem? h)
      rw [List.getElem?_set] at he'
      by_cases hii : off / sz = i
      · subst hii
        simp only [if_true, hi] at he'
        injection he' with he'
        subst he'
        simp only [Pi.splice, List.getElem?_append, List.length_append, List.length_take, List.getElem?_take, List.getElem?_drop] at hd
        have hm : min (off % sz) e.length = off % sz := by omega
        rw [hm] at hd
        simp only [List.getElem?_toArray, List.getElem?_append, List.length_append, List.length_take, List.getElem?_take, List.getElem?_drop, Array.length_toList]
        have hm2 : min off c.size = off := by omega
        rw [hm2, hv.1]
        by_cases hj1 : j < off % sz
        · rw [if_pos (by omega), if_pos hj1, if_pos hj1] at hd
          rw [if_pos (by omega), if_pos (by omega), if_pos (by omega)]
          obtain ⟨u, a1, a2, a3⟩ := h3 _ j e d he hd
          exact ⟨u, by simpa using a1, a2, a3⟩
        · by_cases hj2 : j < off % sz + ds.length
          · rw [if_pos hj2, if_neg hj1] at hd
            rw [if_pos (by omega), if_neg (by omega)]
            obtain ⟨u, a1, a2, a3⟩ := hv.2 _ d hd
            exact ⟨u, by rw [show off / sz * sz + j - off = j - off % sz by omega]; exact a1, a2, a3⟩
          · rw [if_neg hj2, show off % sz + ds.length + (j - (off % sz + ds.length)) = j by omega] at hd
            rw [if_neg (by omega), show off + ds.length + (off / sz * sz + j - (off + ds.length)) = off / sz * sz + j by omega]
            obtain ⟨u, a1, a2, a3⟩ := h3 _ j e d he hd
            exact ⟨u, by simpa using a1, a2, a3⟩
      · rw [if_neg hii] at he'
        have hl' := hjs e' he'
        have hj : j < sz := by rw [← hl']; exact (List.getElem?_eq_some_iff.1 hd).1
        obtain ⟨u, a1, a2, a3⟩ := h3 i j e' d he' hd
        refine ⟨u, ?_, a2, a3⟩
        simp only [List.getElem?_toArray, List.getElem?_append, List.length_append, List.length_take, List.getElem?_take, List.getElem?_drop, Array.length_toList]
        have hm2 : min off c.size = off := by omega
        rw [hm2, hv.1]
        rcases Nat.lt_or_gt_of_ne hii with hlt | hgt
        · have : (off / sz + 1) * sz ≤ i * sz := Nat.mul_le_mul_right _ (by omega)
          rw [Nat.succ_mul] at this
          rw [if_neg (by omega), show off + ds.length + (i * sz + j - (off + ds.length)) = i * sz + j by omega]
          simpa using a1
        · have : (i + 1) * sz ≤ off / sz * sz := Nat.mul_le_mul_right _ (by omega)
          rw [Nat.succ_mul] at this
          rw [if_pos (by omega), if_pos (by omega), if_pos (by omega)]
          simpa using a1
    · intro e' he'
      rcases List.mem_or_eq_of_mem_set he' with h | h
      · exact h6 e' h
      · subst h
        simp only [Pi.splice, List.length_append, List.length_take, List.length_drop]
        omega
end
end Go.Pi
