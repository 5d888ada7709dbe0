import Derived.Test.YtghncdeldlknnaaPiF
/-
  THE SAME: NEW ROWS, LITERALS, append.
-/
set_option linter.all false
namespace Go.Pi
set_option linter.unusedVariables false
section
variable {P : Program} {fm : Nat → Nat} {B : Base} {w : World} {G : Gh} {H : Heap} {o : Oper} {a : Act} {ts : List D} {call : CallF} {r : Nat} {out : Out}

theorem rep_ptr_new {ok : Nat → Prop} (b cap sz : Nat) : Rep fm (upd G r (.row b cap sz)) ok w (.pointer (some ⟨b, 0, none⟩)) (.ptr r 0) :=
  .ptr r 0 _ (by rw [upd_same]; simp) (fun b' cap' sz' h => by rw [upd_same] at h; injection h with h _ _; subst h; rfl) rfl
theorem rep_ref_new {ok : Nat → Prop} (b cap sz len : Nat) (h : len ≤ cap) : Rep fm (upd G r (.row b cap sz)) ok w (.slice (some ⟨b, 0, none⟩) len cap) (.ref r 0 len) :=
  .ref r 0 len _ (by rw [upd_same]; simp) (fun b' cap' sz' h' => by
    rw [upd_same] at h'
    injection h' with h1 h2 h3
    subst h1; subst h2; subst h3
    exact ⟨by omega, _, rfl, .inl (by simp)⟩) rfl

theorem cr_row {rep : Value → D → Prop} {c : Array Value} {zs : List D} (h : CR rep c.toList zs) :
    c.size = 1 * zs.length ∧ ∀ (i j : Nat) (e : List D) (d : D), [zs][i]? = some e → e[j]? = some d → ∃ u, c[i * zs.length + j]? = some u ∧ u.oneCell' = true ∧ rep u d := by
  refine ⟨by simpa using h.1, fun i j e d he hd => ?_⟩
  cases i with
  | zero =>
    simp at he; subst he
    obtain ⟨u, a1, a2, a3⟩ := h.2 j d hd
    exact ⟨u, by simpa using a1, a2, a3⟩
  | succ i => simp at he

theorem op_alloc (hI : Inv fm B w G H) {e : TypeId} {i : TypeInfo} {z : Value} {zs : List D} (ho : o.op = .alloc e) (hi : P.info? e = some i) (hz : i.zero = some z)
    (hzs : CR (ClosedV fm) z.cells.toList zs) {ρ : PX → D} (hrun : (opE call ρ r (.alloc zs)).run H = some out) : OpOk P o a w (Post fm B w G H out) := by
  obtain ⟨h1, h2, h3⟩ := run_new (by exact hrun)
  simp only [Eff.run, Option.some.injEq] at h3
  subst h3
  obtain ⟨c1, c2⟩ := cr_row (hzs.mono (fun v d h => Rep.closed (fm := fm) (G := G) (ok := okB B G H w) (w := w) (h _ _)))
  obtain ⟨ha, hI'⟩ := inv_new hI h1 h2 (NewBlk.alloc w z.cells e) c1 (by simp) (by decide) (by simp) c2
  refine opOk_val (v := .pointer (some ⟨w.heap.size, 0, none⟩)) (w' := w.alloc (.cells z.cells e)) ?_ ⟨_, ha, hI', rep_ptr_new _ _ _⟩
  simp [execOp, ho, Instr.alloc, zeroValue, typeInfo, hi, hz, newVar, newRow]

theorem op_box (hI : Inv fm B w G H) (hts : TsR (Rep fm G (okB B G H w) w) a.tmps ts) {e : TypeId} {x : Operand} {px : PX} {n : Nat} (ho : o.op = .box e x) (hx : TrX fm x px)
    (hrun : (opE call (PX.ev ts) r (.box n px)).run H = some out) : OpOk P o a w (Post fm B w G H out) := by
  have hv := ev_rep hts hx
  simp only [opE] at hrun
  split at hrun
  · rename_i hc
    obtain ⟨g1, g2⟩ := hc
    obtain ⟨h1, h2, h3⟩ := run_new hrun
    simp only [Eff.run, Option.some.injEq] at h3
    subst h3
    obtain ⟨c1, c2⟩ := cr_row (rep_cells hv g2)
    rw [g1] at c1 c2
    obtain ⟨ha, hI'⟩ := inv_new hI h1 h2 (NewBlk.alloc w (a.eval x).cells e) c1 (by simp) (by decide) (by simp [g1]) c2
    refine opOk_val (v := .pointer (some ⟨w.heap.size, 0, none⟩)) (w' := w.alloc (.cells (a.eval x).cells e)) ?_ ⟨_, ha, hI', rep_ptr_new _ _ _⟩
    simp [execOp, ho, Instr.box, newVar, newRow]
  · simp [Eff.run] at hrun

/-! ### literals -/
theorem fill_ok {rep : Value → D → Prop} {pl : Nat → Option (Nat × Nat)} (hrep : ∀ {x : Operand} {px : PX}, TrX fm x px → (cellsOf (px.ev ts)).all one = true → CR rep (a.eval x).cells.toList (cellsOf (px.ev ts))) :
    ∀ {ps : List (Nat × Operand)} {qs : List (Nat × Nat × PX)}, TrP fm pl ps qs → ∀ {c : Array Value} {zs zs' : List D}, CR rep c.toList zs →
      (∀ q ∈ qs, (cellsOf (q.2.2.ev ts)).all one = true) → fillB zs (qs.map fun p => (p.1, p.2.1, p.2.2.ev ts)) = some zs' →
      ∃ c', Instr.fill pl c (ps.map fun p => (p.1, a.eval p.2)) = some c' ∧ CR rep c'.toList zs'
  | [], [], .nil, c, zs, zs', hc, _, h => by
    simp [fillB] at h
    subst h
    exact ⟨c, rfl, hc⟩
  | (i, x) :: ps, (off, n, px) :: qs, .cons hp hx htl, c, zs, zs', hc, hone, h => by
    simp only [List.map_cons, fillB] at h
    split at h
    · rename_i hg
      obtain ⟨g1, g2⟩ := hg
      have hcx := hrep hx (hone (off, n, px) (by simp))
      have hsz : (a.eval x).cells.size = n := by have := hcx.1; simp at this; omega
      have hcs : c.size = zs.length := by simpa using hc.1
      simp only [List.map_cons, Instr.fill, hp, hsz, ne_eq, not_true_eq_false, decide_false, Bool.false_or, hcs]
      rw [if_neg (by simp; omega)]
      refine fill_ok hrep htl (c := _) (zs := Pi.splice zs off (cellsOf (px.ev ts))) ?_ (fun q hq => hone q (by simp [hq])) h
      have hz := zipIdx_foldl off (a.eval x).cells c (by omega)
      have : CR rep ((a.eval x).cells.zipIdx.foldl (fun (cs : Array Value) (x : Value × Nat) => cs.setIfInBounds (off + x.2) x.1) c).toList (Pi.splice zs off (cellsOf (px.ev ts))) := by
        rw [hz]
        have := hc.splice hcx off
        simpa using this
      exact this
    · cases h

theorem op_build (hI : Inv fm B w G H) (hts : TsR (Rep fm G (okB B G H w) w) a.tmps ts) {t : TypeId} {parts : Array (Nat × Operand)} {z : Value} {zs : List D} {pl : Nat → Option (Nat × Nat)} {qs : List (Nat × Nat × PX)}
    (ho : o.op = .build t parts) (hb : ∀ l, P.built t l = Instr.fill pl z.cells l) (hzs : CR (ClosedV fm) z.cells.toList zs) (hp : TrP fm pl parts.toList qs)
    (hrun : (opE call (PX.ev ts) r (.build zs qs)).run H = some out) : OpOk P o a w (Post fm B w G H out) := by
  simp only [opE] at hrun
  split at hrun
  · rename_i hone
    obtain ⟨d, hd, rfl⟩ := run_quietO hrun
    simp only [Option.map_eq_some_iff] at hd
    obtain ⟨zs', hf, rfl⟩ := hd
    obtain ⟨c', k1, k2⟩ := fill_ok (a := a) (ts := ts) (rep := Rep fm G (okB B G H w) w) (fun hx h1 => rep_cells (ev_rep hts hx) h1) hp (c := z.cells)
      (hzs.mono (fun v d h => .closed (h _ _))) (fun q hq => by simpa using List.all_eq_true.1 hone q hq) hf
    have hbl := run_build (P := P) w t (parts.map fun p => (p.1, a.eval p.2)) c' (by rw [hb]; simpa using k1)
    refine opOk_val (v := .agg c') (w' := w) ?_ (post_quiet hI ?_)
    · simp only [execOp, ho, Sem.run_bind]
      have he : (Instr.build t (parts.map fun (x : Nat × Operand) => match x with | (i, x) => (i, a.eval x))).run P w = .ok (.agg c') w := hbl
      rw [he]
      rfl
    · have := rep_agg_of c'.toList k2
      simpa using this
  · simp [Eff.run] at hrun

/-- Rows of cells, in an array. -/
structure RS (rep : Value → D → Prop) (sz : Nat) (c : Array Value) (es : List (List D)) : Prop where
  size : c.size = es.length * sz
  each : ∀ e ∈ es, e.length = sz
  cell : ∀ (i j : Nat) (e : List D) (d : D), es[i]? = some e → e[j]? = some d → ∃ u, c[i * sz + j]? = some u ∧ u.oneCell' = true ∧ rep u d

theorem rs_set {rep : Value → D → Prop} {sz : Nat} {c c' : Array Value} {es : List (List D)} {i : Nat} {vs : List Value} {ds : List D} (h : RS rep sz c es) (hv : CR rep vs ds) (hl : ds.length = sz) (hi : i < es.length)
    (hc : c'.toList = c.toList.take (i * sz) ++ vs ++ c.toList.drop (i * sz + vs.length)) : RS rep sz c' (es.set i ds) := by
  have hb : i * sz + sz ≤ c.size := by
    rw [h.size, ← Nat.succ_mul]
    exact Nat.mul_le_mul_right _ (by omega)
  have hvl : vs.length = sz := by rw [hv.1, hl]
  refine ⟨?_, ?_, ?_⟩
  · rw [← Array.length_toList, hc]
    simp only [List.length_append, List.length_take, List.length_drop, Array.length_toList, List.length_set]
    have := h.size
    omega
  · intro e he
    rcases List.mem_or_eq_of_mem_set he with h' | h'
    · exact h.each e h'
    · subst h'; exact hl
  · intro k j e d he hd
    rw [← Array.getElem?_toList, hc]
    simp only [List.getElem?_append, List.length_append, List.length_take, List.getElem?_take, List.getElem?_drop, Array.length_toList]
    have hm : min (i * sz) c.size = i * sz := by omega
    rw [hm, hvl]
    rw [List.getElem?_set] at he
    by_cases hki : i = k
    · subst hki
      simp only [if_true, hi] at he
      injection he with he
      subst he
      have hj : j < sz := by rw [← hl]; exact (List.getElem?_eq_some_iff.1 hd).1
      obtain ⟨u, a1, a2, a3⟩ := hv.2 j d hd
      rw [if_pos (by omega), if_neg (by omega)]
      exact ⟨u, by rw [show i * sz + j - i * sz = j by omega]; exact a1, a2, a3⟩
    · rw [if_neg hki] at he
      have hj : j < sz := by rw [← h.each e (List.mem_of_getElem? he)]; exact (List.getElem?_eq_some_iff.1 hd).1
      obtain ⟨u, a1, a2, a3⟩ := h.cell k j e d he hd
      refine ⟨u, ?_, a2, a3⟩
      rcases Nat.lt_or_gt_of_ne hki with hlt | hgt
      · have : (i + 1) * sz ≤ k * sz := Nat.mul_le_mul_right _ (by omega)
        rw [Nat.succ_mul] at this
        rw [if_neg (by omega), show i * sz + sz + (k * sz + j - (i * sz + sz)) = k * sz + j by omega]
        simpa using a1
      · have : (k + 1) * sz ≤ i * sz := Nat.mul_le_mul_right _ (by omega)
        rw [Nat.succ_mul] at this
        rw [if_pos (by omega), if_pos (by omega), if_pos (by omega)]
        simpa using a1

theorem fillS_ok {rep : Value → D → Prop} {sz : Nat} (hrep : ∀ {x : Operand} {px : PX}, TrX fm x px → (cellsOf (px.ev ts)).all one = true → CR rep (a.eval x).cells.toList (cellsOf (px.ev ts))) :
    ∀ {ps : List (Nat × Operand)} {qs : List (Nat × PX)}, TrS fm ps qs → ∀ {c : Array Value} {es es' : List (List D)}, RS rep sz c es →
      (∀ q ∈ qs, (cellsOf (q.2.ev ts)).all one = true) → fillS sz es (qs.map fun p => (p.1, p.2.ev ts)) = some es' →
      ∃ c', Instr.fill (fun i => some (i * sz, sz)) c (ps.map fun p => (p.1, a.eval p.2)) = some c' ∧ RS rep sz c' es' ∧ es'.length = es.length
  | [], [], .nil, c, es, es', hc, _, h => by
    simp [fillS] at h
    subst h
    exact ⟨c, rfl, hc, rfl⟩
  | (i, x) :: ps, (_, px) :: qs, .cons hx htl, c, es, es', hc, hone, h => by
    simp only [List.map_cons, fillS] at h
    split at h
    · rename_i hg
      obtain ⟨g1, g2⟩ := hg
      have hcx := hrep hx (hone (i, px) (by simp))
      have hsz : (a.eval x).cells.size = sz := by have := hcx.1; simp at this; omega
      have hb : i * sz + sz ≤ c.size := by
        rw [hc.size, ← Nat.succ_mul]
        exact Nat.mul_le_mul_right _ (by omega)
      simp only [List.map_cons, Instr.fill, hsz, ne_eq, not_true_eq_false, decide_false, Bool.false_or]
      rw [if_neg (by simp; omega)]
      have hz := zipIdx_foldl (i * sz) (a.eval x).cells c (by omega)
      have : RS rep sz ((a.eval x).cells.zipIdx.foldl (fun (cs : Array Value) (x : Value × Nat) => cs.setIfInBounds (i * sz + x.2) x.1) c) (es.set i (cellsOf (px.ev ts))) :=
        rs_set hc hcx g1 g2 (by rw [hz]; simp)
      obtain ⟨c', k1, k2, k3⟩ := fillS_ok hrep htl (c := _) (es := es.set i (cellsOf (px.ev ts))) this (fun q hq => hone q (by simp [hq])) h
      exact ⟨c', k1, k2, by simpa using k3⟩
    · cases h

theorem made_rs {rep : Value → D → Prop} {z : Array Value} {zs : List D} {sz : Nat} (h : CR rep z.toList zs) (hl : zs.length = sz) (h0 : 0 < sz) (n : Nat) : RS rep sz (madeCells z (n * sz)) (List.replicate n zs) := by
  have hz : z.size = sz := by rw [← hl]; simpa using h.1
  refine ⟨by simp [size_madeCells], fun e he => by rw [(List.mem_replicate.1 he).2]; exact hl, fun i j e d he hd => ?_⟩
  rw [List.getElem?_replicate] at he
  split at he
  · rename_i hi
    injection he with he
    subst he
    have hj : j < sz := by rw [← hl]; exact (List.getElem?_eq_some_iff.1 hd).1
    obtain ⟨u, a1, a2, a3⟩ := h.2 j d hd
    have hb : i * sz + j < n * sz := by
      have : (i + 1) * sz ≤ n * sz := Nat.mul_le_mul_right _ (by omega)
      rw [Nat.succ_mul] at this
      omega
    refine ⟨u, ?_, a2, a3⟩
    unfold madeCells
    rw [Array.getElem?_map, Array.getElem?_range]
    simp only [hb, if_true, Option.map_some]
    rw [hz, show (i * sz + j) % sz = j by rw [Nat.mul_comm, Nat.mul_add_mod, Nat.mod_eq_of_lt hj]]
    congr 1
    rw [getElem!_def]
    have : z[j]? = some u := by simpa using a1
    rw [this]
  · cases he

theorem rs_inv {rep : Value → D → Prop} {sz n : Nat} {c : Array Value} {es : List (List D)} (h : RS rep sz c es) (hl : es.length = n) : c.size = n * sz := by rw [h.size, hl]

theorem op_buildSlice (hI : Inv fm B w G H) (hts : TsR (Rep fm G (okB B G H w) w) a.tmps ts) {t e : TypeId} {n : Nat} {parts : Array (Nat × Operand)} {ie : TypeInfo} {z : Value} {zs : List D} {sz : Nat} {qs : List (Nat × PX)}
    (ho : o.op = .buildSlice t n parts) (hu : P.underlying t = some (.slice e)) (hie : P.info? e = some ie) (hz : ie.zero = some z) (hsz : ie.size = sz) (h0 : 0 < sz) (hzs : CR (ClosedV fm) z.cells.toList zs) (hzl : zs.length = sz)
    (hsm : n * sz ≤ 16777216) (hp : TrS fm parts.toList qs) (hrun : (opE call (PX.ev ts) r (.buildSlice sz n zs qs)).run H = some out) : OpOk P o a w (Post fm B w G H out) := by
  simp only [opE] at hrun
  split at hrun
  · rename_i hone
    cases hf : fillS sz (List.replicate n zs) (qs.map fun p => (p.1, p.2.ev ts)) with
    | none => rw [hf] at hrun; simp [Eff.run] at hrun
    | some es' =>
      rw [hf] at hrun
      obtain ⟨h1, h2, h3⟩ := run_new hrun
      simp only [Eff.run, Option.some.injEq] at h3
      subst h3
      have hrs := made_rs (hzs.mono (fun v d h => Rep.closed (fm := fm) (G := G) (ok := okB B G H w) (w := w) (h _ _))) hzl h0 n
      obtain ⟨c', k1, k2, k3⟩ := fillS_ok (a := a) (ts := ts) (rep := Rep fm G (okB B G H w) w) (fun hx h1 => rep_cells (ev_rep hts hx) h1) hp (c := madeCells z.cells (n * sz))
        hrs (fun q hq => by simpa using List.all_eq_true.1 hone q hq) hf
      have hl : es'.length = n := by simpa using k3
      have hcap : n ≤ maxLen := by
        have : n ≤ n * sz := Nat.le_mul_of_pos_right n h0
        simp only [maxLen]; omega
      obtain ⟨ha, hI'⟩ := inv_new (w' := w.alloc (.cells c' e)) hI h1 h2 (NewBlk.alloc w c' e) (rs_inv k2 hl) (by omega) hcap k2.each k2.cell
      refine opOk_val (v := .slice (some ⟨w.heap.size, 0, none⟩) n n) (w' := w.alloc (.cells c' e)) ?_ ⟨_, ha, hI', rep_ref_new _ _ _ _ (Nat.le_refl _)⟩
      have hbs : (Instr.buildSlice t n (parts.map fun p => (p.1, a.eval p.2))).run P w = .ok (.slice (some ⟨w.heap.size, 0, none⟩) n n) (w.alloc (.cells c' e)) := by
        by_cases hn : n = 0
        · subst hn
          have er : Array.range 0 = #[] := rfl
          have hc' : Instr.fill (fun i => some (i * ie.size, ie.size)) #[] (parts.map fun p => (p.1, a.eval p.2)).toList = some c' := by
            simpa [madeCells, hsz, er] using k1
          simp [Instr.buildSlice, run_underlying hu, sizeOf, typeInfo, hie, newRow, er] at hc' ⊢
          rw [hc']
          simp
        · refine run_buildSlice w t e n _ c' ie z hu hie hz (by rw [hsz]; omega) (by rw [hsz]; exact Nat.mul_ne_zero hn (by omega)) ?_
          rw [hsz]
          simpa [madeCells] using k1
      simp only [execOp, ho, Sem.run_bind]
      have he : (Instr.buildSlice t n (parts.map fun (x : Nat × Operand) => match x with | (i, x) => (i, a.eval x))).run P w = .ok (.slice (some ⟨w.heap.size, 0, none⟩) n n) (w.alloc (.cells c' e)) := hbs
      rw [he]
      rfl
  · simp [Eff.run] at hrun

theorem op_makeSlice (hI : Inv fm B w G H) (hts : TsR (Rep fm G (okB B G H w) w) a.tmps ts) {t e : TypeId} {i : TypeInfo} {z : Value} {zs : List D} {sz bytes : Nat} {x y : Operand} {px py : PX}
    (ho : o.op = .makeSlice t x y) (hu : P.underlying t = some (.slice e)) (hi : P.info? e = some i) (hz : i.zero = some z) (hsz : i.size = sz) (hby : i.bytes = bytes) (h0 : 0 < sz)
    (hzs : CR (ClosedV fm) z.cells.toList zs) (hzl : zs.length = sz) (hx : TrX fm x px) (hy : TrX fm y py)
    (hrun : (opE call (PX.ev ts) r (.makeSlice sz bytes zs px py)).run H = some out) : OpOk P o a w (Post fm B w G H out) := by
  have hvx := ev_rep hts hx
  have hvy := ev_rep hts hy
  simp only [opE] at hrun
  split at hrun
  · rename_i k1 n k2 m e1 e2
    split at hrun
    · rename_i hc
      obtain ⟨g1, g2, g3, g4⟩ := hc
      subst g2
      obtain ⟨h1, h2, h3⟩ := run_new hrun
      simp only [Eff.run, Option.some.injEq] at h3
      subst h3
      rw [e1] at hvx; rw [e2] at hvy
      have vx := hvx.inv_int
      have vy := hvy.inv_int
      have hroom : (roomy : Int) = 1099511627776 := rfl
      have hrs := made_rs (hzs.mono (fun v d h => Rep.closed (fm := fm) (G := G) (ok := okB B G H w) (w := w) (h _ _))) hzl h0 n.toNat
      have hcap : n.toNat ≤ maxLen := by simp only [maxLen]; omega
      obtain ⟨ha, hI'⟩ := inv_new (w' := w.alloc (.cells (madeCells z.cells (n.toNat * sz)) e)) hI h1 h2 (NewBlk.alloc w _ e) (by simp [size_madeCells]) (by simp) hcap hrs.each hrs.cell
      refine opOk_val (v := .slice (some ⟨w.heap.size, 0, none⟩) n.toNat n.toNat) (w' := w.alloc (.cells (madeCells z.cells (n.toNat * sz)) e)) ?_ ⟨_, ha, hI', rep_ref_new _ _ _ _ (Nat.le_refl _)⟩
      have hr := run_make (P := P) w t e i z hu hi hz k1 k2 n n g1 (Int.le_refl _) (by rw [hby, Int.mul_comm]; omega) (by omega)
      rw [hsz] at hr
      simp only [execOp, ho, Sem.run_bind, vx, vy, hr, Result.andThen_ok, Sem.run_pure]
    · simp [Eff.run] at hrun
  · simp [Eff.run] at hrun
end
end Go.Pi
