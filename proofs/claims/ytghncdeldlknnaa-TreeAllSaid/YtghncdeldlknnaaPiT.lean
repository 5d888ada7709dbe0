import Derived.Test.YtghncdeldlknnaaPiS
import Derived.Test.YtghncdeldlknnaaPiL
/-
  THE BYTES OF A CONSTANT: the block is marked, and is data from then on.
-/
set_option linter.all false
namespace Go.Pi
set_option linter.unusedVariables false
section
variable {P : Program} {fm : Nat → Nat} {B : Base} {w w' : World} {G : Gh} {H : Heap} {o : Oper} {a : Act} {ts : List D} {call : CallF} {r : Nat} {out : Out}

theorem cell_freeze (w : World) (A : Addr) (n : Nat) (x : Addr) : (w.freeze A n).cell? x = w.cell? x := by
  unfold World.freeze
  split
  · rfl
  · unfold World.cell?
    simp only [Array.getElem?_modify]
    by_cases h : A.block = x.block
    · simp only [h, if_true]
      cases hh : w.heap[x.block]? with
      | none => simp
      | some ob => cases ob <;> simp
    · simp only [h, if_false]
theorem heap_freeze_ne (w : World) (A : Addr) (n b : Nat) (h : A.block ≠ b) : (w.freeze A n).heap[b]? = w.heap[b]? := by
  unfold World.freeze
  split
  · rfl
  · simp [Array.getElem?_modify, h]
theorem freeze_parts (w : World) (A : Addr) (n : Nat) : (w.freeze A n).heap.size = w.heap.size ∧ (w.freeze A n).os = w.os ∧ (w.freeze A n).tape = w.tape ∧ (w.freeze A n).output = w.output := by
  unfold World.freeze
  split <;> simp

/-- A row is given up. -/
theorem inv_mark (hI : Inv fm B w G H) {id sz : Nat} {es : List (List D)} (hid : hat H id = .row sz es true) {b cap : Nat} (hg : G id = .row b cap sz) (A : Addr) (hA : A.block = b) (n : Nat) :
    Adv B w G H (w.freeze A n) G (H.set id .dead) ∧ Inv fm B (w.freeze A n) G (H.set id .dead) ∧ okB B G (H.set id .dead) (w.freeze A n) b := by
  obtain ⟨p1, p2, p3, p4⟩ := freeze_parts w A n
  have hh : ∀ i, hat (H.set id .dead) i = if i = id then .dead else hat H i := by
    intro i
    rw [hat_set]
    by_cases e : i = id
    · subst e
      have hlt : i < H.length := by
        unfold hat at hid
        rcases Nat.lt_or_ge i H.length with h | h
        · exact h
        · rw [List.getD_eq_getElem?_getD, List.getElem?_eq_none h] at hid; cases hid
      simp [hlt]
    · simp [e, Ne.symm e]
  have hrow : ∀ i sz es lv, hat (H.set id .dead) i = .row sz es lv → i ≠ id ∧ hat H i = .row sz es lv := by
    intro i sz es lv h
    rw [hh] at h
    split at h
    · cases h
    · exact ⟨by assumption, h⟩
  have hlv : ∀ b', Lv G (H.set id .dead) b' → Lv G H b' := by
    rintro b' ⟨i, s, e, c, s', h1, h2⟩
    exact ⟨i, s, e, c, s', (hrow _ _ _ _ h1).2, h2⟩
  have hadv : Adv B w G H (w.freeze A n) G (H.set id .dead) := by
    refine ⟨gle_refl _, fun b' ⟨h1, h2, h3⟩ => ⟨h1, fun h => h2 (hlv b' h), by omega⟩, fun b' o v _ h => by rw [cell_freeze]; exact h⟩
  have hbl : Lv G H b := ⟨id, sz, es, cap, sz, hid, hg⟩
  refine ⟨hadv, ?_, ?_⟩
  · refine inv_mk hI (by omega) p2 p3 p4 (fun b' hb' hl => ?_) (fun i s e lv h => ?_) (fun i h => ?_) (fun i h => ?_) (fun i j b1 c s c' s' r1 r2 h1 h2 => ?_)
    · refine heap_freeze_ne w A n b' (fun e => hl ?_)
      rw [← e, hA]; exact hbl
    · obtain ⟨hne, hr⟩ := hrow _ _ _ _ h
      obtain ⟨b1, c1, a1, a2, a3⟩ := hI.rows i s e lv hr
      refine ⟨b1, c1, a1, a2, a3.mono (fun v d hv => hadv.rep hv) (heap_freeze_ne w A n b1 (fun e' => hne ?_))⟩
      rw [hA] at e'
      subst e'
      exact hI.inj i id b c1 s cap sz ⟨_, _, _, hr⟩ ⟨_, _, _, hid⟩ a1 hg
    · rw [hh] at h
      split at h
      · cases h
      · exact hI.fresh i h
    · rw [hh] at h
      split at h
      · rename_i e; rw [e, hg]; intro h; cases h
      · exact hI.dead i h
    · obtain ⟨_, _, _, q1⟩ := r1
      obtain ⟨_, _, _, q2⟩ := r2
      exact hI.inj i j b1 c s c' s' ⟨_, _, _, (hrow _ _ _ _ q1).2⟩ ⟨_, _, _, (hrow _ _ _ _ q2).2⟩ h1 h2
  · obtain ⟨b1, c1, a1, a2, a3⟩ := hI.rows id sz es true hid
    rw [hg] at a1
    injection a1 with e1 e2 e3
    subst e1
    refine ⟨.inr a2, ?_, by rw [p1]; exact a3.lt⟩
    rintro ⟨i, s, e, c, s', h1, h2⟩
    obtain ⟨hne, hr⟩ := hrow _ _ _ _ h1
    obtain ⟨b2, c2, k1, _, _⟩ := hI.rows i s e true hr
    rw [h2] at k1
    injection k1 with q1 q2 q3
    subst q3
    exact hne (hI.inj i id b c s' cap sz ⟨_, _, _, hr⟩ ⟨_, _, _, hid⟩ h2 hg)

theorem op_mark (hI : Inv fm B w G H) (hts : TsR (Rep fm G (okB B G H w) w) a.tmps ts) {t e : TypeId} {x : Operand} {px : PX} (ho : o.op = .convert t t x) (ht : P.underlying t = some (.slice e)) (he : P.underlying e = some (.int .u8))
    (hx : TrX fm x px) (hrun : (opE call (PX.ev ts) r (.mark px)).run H = some out) : OpOk P o a w (Post fm B w G H out) := by
  have hv := ev_rep hts hx
  simp only [opE] at hrun
  split at hrun
  · rename_i id off len e1
    obtain ⟨⟨s', es', l1⟩, l2⟩ := run_live hrun
    obtain ⟨s, es, lv, g1, g2⟩ := run_get l2
    rw [l1] at g1
    injection g1 with q1 q2 q3
    subst q1; subst q2; subst q3
    split at g2
    · rename_i hc
      obtain ⟨c1, c2, c3, c4, c5⟩ := hc
      subst c1
      simp only [Eff.run, Option.some.injEq] at g2
      subst g2
      rw [e1] at hv
      obtain ⟨b, cap, k1, k2, k3⟩ := hI.rows id 1 es' true l1
      obtain ⟨r1, A, vx, r2⟩ := hv.inv_ref k1
      subst c2
      have hA : A = ⟨b, 0, none⟩ := by
        rcases r2 with ⟨_, h | h⟩
        · simpa using h
        · exfalso; omega
      obtain ⟨⟨c, T, m1, m2, m3⟩, m4, m5, m6⟩ := k3
      obtain ⟨f1, f2, f3⟩ := inv_mark hI l1 k1 ⟨b, c.size, none⟩ rfl 1
      have hshape : w.shape? b = some (T, c.size) := by simp [World.shape?, m1]
      have hrun : (convert t t (a.eval x)).run P w = .ok (a.eval x) (w.freeze ⟨b, c.size, none⟩ 1) := by
        rw [vx, hA]
        simp [convert, run_underlying ht, run_underlying he, markStringish, run_shape, hshape, run_freeze]
      refine opOk_val (v := a.eval x) (w' := w.freeze ⟨b, c.size, none⟩ 1) ?_ ⟨G, f1, f2, .closed ?_⟩
      · simp only [execOp, ho, Sem.run_bind, hrun, Result.andThen_ok, Sem.run_pure]
      · rw [vx, hA]
        obtain ⟨l, hl⟩ := Option.isSome_iff_exists.1 c4
        obtain ⟨ns, n1, _, n3⟩ := bytes_vals hl
        have hrc : RowOk (RepC fm (okB B G (H.set id .dead) (w.freeze ⟨b, c.size, none⟩ 1)) w) w 1 es' b cap := by
          refine ⟨⟨c, T, m1, m2, fun i j e d he hd => ?_⟩, m4, m5, m6⟩
          obtain ⟨u, a1, a2, a3⟩ := m3 i j e d he hd
          refine ⟨u, a1, a2, ?_⟩
          have hi : i < ns.length := by rw [n1]; exact (List.getElem?_eq_some_iff.1 he).1
          have := n3 i ns[i] (List.getElem?_eq_getElem hi)
          rw [he] at this
          injection this with this
          subst this
          cases j with
          | zero =>
            simp at hd
            subst hd
            rw [a3.inv_int]
            exact .int _ _
          | succ j => simp at hd
        have hl := lst_of_row (fm := fm) hrc f3 (off := 0) (len := es'.length) (by omega) (A := ⟨b, 0, none⟩) (cap - 0) (by omega) (.inl (by simp))
        have := hl.mono fm (ok' := okB B G (H.set id .dead) (w.freeze ⟨b, c.size, none⟩ 1)) (w' := w.freeze ⟨b, c.size, none⟩ 1) (fun _ h => h) (fun b o v _ h => by rw [cell_freeze]; exact h)
        rw [c3]
        have this' : RepC fm (okB B G (H.set id .dead) (w.freeze ⟨b, c.size, none⟩ 1)) (w.freeze ⟨b, c.size, none⟩ 1) (.slice (some ⟨b, 0, none⟩) es'.length cap) (.lst 1 es') := by simpa using this
        exact this'
    · simp [Eff.run] at g2
  · simp [Eff.run] at hrun
end
end Go.Pi
