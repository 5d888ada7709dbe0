import Derived.Test.YtakonddhaabobaaGreatPA
import Derived.Laws.Cover3
set_option linter.all false
namespace Go.Pi
set_option linter.unusedVariables false
section
variable {P : Program} {fm : Nat → Nat} {B : Base} {w : World} {G : Gh} {H : Heap} {o : Oper} {a : Act} {ts : List D} {call : CallF} {r : Nat} {out : Out}
theorem rep_ptr_new {ok : Nat → Prop} (b cap sz : Nat) : Rep fm (upd G r (.row b cap sz)) ok w (.pointer (some ⟨b, 0, none⟩)) (.ptr r 0) :=
 .ptr r 0 _ (by rw [upd_same]; simp) (fun b' cap' sz' h => by rw [upd_same] at h; injection h with h _ _; subst h; rfl) rfl
theorem rep_ref_new {ok : Nat → Prop} (b cap sz len : Nat) (h : len ≤ cap) : Rep fm (upd G r (.row b cap sz)) ok w (.slice (some ⟨b, 0, none⟩) len cap) (.ref r 0 len) :=
 .ref r 0 len _ (by rw [upd_same]; simp) (fun b' cap' sz' h' => by
  rw [upd_same] at h'
  injection h' with h1 h2 h3
  subst h1; subst h2; subst h3
  exact ⟨by omega, _, rfl, .inl (by simp)⟩) rfl
theorem cr_row {rep : Value → D → Prop} {c : Array Value} {zs : List D} (h : CR rep c.toList zs) :
  c.size = 1 * zs.length ∧ ∀ (i j : Nat) (e : List D) (d : D), [zs][i]? = some e → e[j]? = some d → ∃ u, c[i * zs.length + j]? = some u ∧ u.oneCell' = true ∧ rep u d := by
 refine ⟨by simpa using h.1, fun i j e d he hd => ?_⟩
 cases i with
 | zero =>
  simp at he; subst he
  obtain ⟨u, a1, a2, a3⟩ := h.2 j d hd
  exact ⟨u, by simpa using a1, a2, a3⟩
 | succ i => simp at he
theorem op_alloc (hI : Inv fm B w G H) {e : TypeId} {i : TypeInfo} {z : Value} {zs : List D} (ho : o.op = .alloc e) (hi : P.info? e = some i) (hz : i.zero = some z)
  (hzs : CR (ClosedV fm) z.cells.toList zs) {ρ : PX → D} (hrun : (opE call ρ r (.alloc zs)).run H = some out) : OpOk P o a w (Post fm B w G H out) := by
 obtain ⟨h1, h2, h3⟩ := run_new (by exact hrun)
 simp only [Eff.run, Option.some.injEq] at h3
 subst h3
 obtain ⟨c1, c2⟩ := cr_row (hzs.mono (fun v d h => Rep.closed (fm := fm) (G := G) (ok := okB B G H w) (w := w) (h _ _)))
 obtain ⟨ha, hI'⟩ := inv_new hI h1 h2 (NewBlk.alloc w z.cells e) c1 (by simp) (by decide) (by simp) c2
 refine opOk_val (v := .pointer (some ⟨w.heap.size, 0, none⟩)) (w' := w.alloc (.cells z.cells e)) ?_ ⟨_, ha, hI', rep_ptr_new _ _ _⟩
 simp [execOp, ho, Instr.alloc, zeroValue, typeInfo, hi, hz, newVar, newRow]
theorem op_box (hI : Inv fm B w G H) (hts : TsR (Rep fm G (okB B G H w) w) a.tmps ts) {e : TypeId} {x : Operand} {px : PX} {n : Nat} (ho : o.op = .box e x) (hx : TrX fm x px)
  (hrun : (opE call (PX.ev ts) r (.box n px)).run H = some out) : OpOk P o a w (Post fm B w G H out) := by
 have hv := ev_rep hts hx
 simp only [opE] at hrun
 split at hrun
 ·rename_i hc
  obtain ⟨g1, g2⟩ := hc
  obtain ⟨h1, h2, h3⟩ := run_new hrun
  simp only [Eff.run, Option.some.injEq] at h3
  subst h3
  obtain ⟨c1, c2⟩ := cr_row (rep_cells hv g2)
  rw [g1] at c1 c2
  obtain ⟨ha, hI'⟩ := inv_new hI h1 h2 (NewBlk.alloc w (a.eval x).cells e) c1 (by simp) (by decide) (by simp [g1]) c2
  refine opOk_val (v := .pointer (some ⟨w.heap.size, 0, none⟩)) (w' := w.alloc (.cells (a.eval x).cells e)) ?_ ⟨_, ha, hI', rep_ptr_new _ _ _⟩
  simp [execOp, ho, Instr.box, newVar, newRow]
 ·simp [Eff.run] at hrun
theorem fill_ok {rep : Value → D → Prop} {pl : Nat → Option (Nat × Nat)} (hrep : ∀ {x : Operand} {px : PX}, TrX fm x px → (cellsOf (px.ev ts)).all one = true → CR rep (a.eval x).cells.toList (cellsOf (px.ev ts))) :
  ∀ {ps : List (Nat × Operand)} {qs : List (Nat × Nat × PX)}, TrP fm pl ps qs → ∀ {c : Array Value} {zs zs' : List D}, CR rep c.toList zs →
   (∀ q ∈ qs, (cellsOf (q.2.2.ev ts)).all one = true) → fillB zs (qs.map fun p => (p.1, p.2.1, p.2.2.ev ts)) = some zs' →
   ∃ c', Instr.fill pl c (ps.map fun p => (p.1, a.eval p.2)) = some c' ∧ CR rep c'.toList zs'
 | [], [], .nil, c, zs, zs', hc, _, h => by
  simp [fillB] at h
  subst h
  exact ⟨c, rfl, hc⟩
 | (i, x) :: ps, (off, n, px) :: qs, .cons hp hx htl, c, zs, zs', hc, hone, h => by
  simp only [List.map_cons, fillB] at h
  split at h
  ·rename_i hg
   obtain ⟨g1, g2⟩ := hg
   have hcx := hrep hx (hone (off, n, px) (by simp))
   have hsz : (a.eval x).cells.size = n := by have := hcx.1; simp at this; omega
   have hcs : c.size = zs.length := by simpa using hc.1
   simp only [List.map_cons, Instr.fill, hp, hsz, ne_eq, not_true_eq_false, decide_false, Bool.false_or, hcs]
   rw [if_neg (by simp; omega)]
   refine fill_ok hrep htl (c := _) (zs := Pi.splice zs off (cellsOf (px.ev ts))) ?_ (fun q hq => hone q (by simp [hq])) h
   have hz := zipIdx_foldl off (a.eval x).cells c (by omega)
   have : CR rep ((a.eval x).cells.zipIdx.foldl (fun (cs : Array Value) (x : Value × Nat) => cs.setIfInBounds (off + x.2) x.1) c).toList (Pi.splice zs off (cellsOf (px.ev ts))) := by
    rw [hz]
    have := hc.splice hcx off
    simpa using this
   exact this
  ·cases h
theorem op_build (hI : Inv fm B w G H) (hts : TsR (Rep fm G (okB B G H w) w) a.tmps ts) {t : TypeId} {parts : Array (Nat × Operand)} {z : Value} {zs : List D} {pl : Nat → Option (Nat × Nat)} {qs : List (Nat × Nat × PX)}
  (ho : o.op = .build t parts) (hb : ∀ l, P.built t l = Instr.fill pl z.cells l) (hzs : CR (ClosedV fm) z.cells.toList zs) (hp : TrP fm pl parts.toList qs)
  (hrun : (opE call (PX.ev ts) r (.build zs qs)).run H = some out) : OpOk P o a w (Post fm B w G H out) := by
 simp only [opE] at hrun
 split at hrun
 ·rename_i hone
  obtain ⟨d, hd, rfl⟩ := run_quietO hrun
  simp only [Option.map_eq_some_iff] at hd
  obtain ⟨zs', hf, rfl⟩ := hd
  obtain ⟨c', k1, k2⟩ := fill_ok (a := a) (ts := ts) (rep := Rep fm G (okB B G H w) w) (fun hx h1 => rep_cells (ev_rep hts hx) h1) hp (c := z.cells)
   (hzs.mono (fun v d h => .closed (h _ _))) (fun q hq => by simpa using List.all_eq_true.1 hone q hq) hf
  have hbl := run_build (P := P) w t (parts.map fun p => (p.1, a.eval p.2)) c' (by rw [hb]; simpa using k1)
  refine opOk_val (v := .agg c') (w' := w) ?_ (post_quiet hI ?_)
  ·simp only [execOp, ho, Sem.run_bind]
   have he : (Instr.build t (parts.map fun (x : Nat × Operand) => match x with | (i, x) => (i, a.eval x))).run P w = .ok (.agg c') w := hbl
   rw [he]
   rfl
  ·have := rep_agg_of c'.toList k2
   simpa using this
 ·simp [Eff.run] at hrun
structure RS (rep : Value → D → Prop) (sz : Nat) (c : Array Value) (es : List (List D)) : Prop where
 size : c.size = es.length * sz
 each : ∀ e ∈ es, e.length = sz
 cell : ∀ (i j : Nat) (e : List D) (d : D), es[i]? = some e → e[j]? = some d → ∃ u, c[i * sz + j]? = some u ∧ u.oneCell' = true ∧ rep u d
theorem rs_set {rep : Value → D → Prop} {sz : Nat} {c c' : Array Value} {es : List (List D)} {i : Nat} {vs : List Value} {ds : List D} (h : RS rep sz c es) (hv : CR rep vs ds) (hl : ds.length = sz) (hi : i < es.length)
  (hc : c'.toList = c.toList.take (i * sz) ++ vs ++ c.toList.drop (i * sz + vs.length)) : RS rep sz c' (es.set i ds) := by
 have hb : i * sz + sz ≤ c.size := by
  rw [h.size, ← Nat.succ_mul]
  exact Nat.mul_le_mul_right _ (by omega)
 have hvl : vs.length = sz := by rw [hv.1, hl]
 refine ⟨?_, ?_, ?_⟩
 ·rw [← Array.length_toList, hc]
  simp only [List.length_append, List.length_take, List.length_drop, Array.length_toList, List.length_set]
  have := h.size
  omega
 ·intro e he
  rcases List.mem_or_eq_of_mem_set he with h' | h'
  ·exact h.each e h'
  ·subst h'; exact hl
 ·intro k j e d he hd
  rw [← Array.getElem?_toList, hc]
  simp only [List.getElem?_append, List.length_append, List.length_take, List.getElem?_take, List.getElem?_drop, Array.length_toList]
  have hm : min (i * sz) c.size = i * sz := by omega
  rw [hm, hvl]
  rw [List.getElem?_set] at he
  by_cases hki : i = k
  ·subst hki
   simp only [if_true, hi] at he
   injection he with he
   subst he
   have hj : j < sz := by rw [← hl]; exact (List.getElem?_eq_some_iff.1 hd).1
   obtain ⟨u, a1, a2, a3⟩ := hv.2 j d hd
   rw [if_pos (by omega), if_neg (by omega)]
   exact ⟨u, by rw [show i * sz + j - i * sz = j by omega]; exact a1, a2, a3⟩
  ·rw [if_neg hki] at he
   have hj : j < sz := by rw [← h.each e (List.mem_of_getElem? he)]; exact (List.getElem?_eq_some_iff.1 hd).1
   obtain ⟨u, a1, a2, a3⟩ := h.cell k j e d he hd
   refine ⟨u, ?_, a2, a3⟩
   rcases Nat.lt_or_gt_of_ne hki with hlt | hgt
   ·have : (i + 1) * sz ≤ k * sz := Nat.mul_le_mul_right _ (by omega)
    rw [Nat.succ_mul] at this
    rw [if_neg (by omega), show i * sz + sz + (k * sz + j - (i * sz + sz)) = k * sz + j by omega]
    simpa using a1
   ·have : (k + 1) * sz ≤ i * sz := Nat.mul_le_mul_right _ (by omega)
    rw [Nat.succ_mul] at this
    rw [if_pos (by omega), if_pos (by omega), if_pos (by omega)]
    simpa using a1
theorem fillS_ok {rep : Value → D → Prop} {sz : Nat} (hrep : ∀ {x : Operand} {px : PX}, TrX fm x px → (cellsOf (px.ev ts)).all one = true → CR rep (a.eval x).cells.toList (cellsOf (px.ev ts))) :
  ∀ {ps : List (Nat × Operand)} {qs : List (Nat × PX)}, TrS fm ps qs → ∀ {c : Array Value} {es es' : List (List D)}, RS rep sz c es →
   (∀ q ∈ qs, (cellsOf (q.2.ev ts)).all one = true) → fillS sz es (qs.map fun p => (p.1, p.2.ev ts)) = some es' →
   ∃ c', Instr.fill (fun i => some (i * sz, sz)) c (ps.map fun p => (p.1, a.eval p.2)) = some c' ∧ RS rep sz c' es' ∧ es'.length = es.length
 | [], [], .nil, c, es, es', hc, _, h => by
  simp [fillS] at h
  subst h
  exact ⟨c, rfl, hc, rfl⟩
 | (i, x) :: ps, (_, px) :: qs, .cons hx htl, c, es, es', hc, hone, h => by
  simp only [List.map_cons, fillS] at h
  split at h
  ·rename_i hg
   obtain ⟨g1, g2⟩ := hg
   have hcx := hrep hx (hone (i, px) (by simp))
   have hsz : (a.eval x).cells.size = sz := by have := hcx.1; simp at this; omega
   have hb : i * sz + sz ≤ c.size := by
    rw [hc.size, ← Nat.succ_mul]
    exact Nat.mul_le_mul_right _ (by omega)
   simp only [List.map_cons, Instr.fill, hsz, ne_eq, not_true_eq_false, decide_false, Bool.false_or]
   rw [if_neg (by simp; omega)]
   have hz := zipIdx_foldl (i * sz) (a.eval x).cells c (by omega)
   have : RS rep sz ((a.eval x).cells.zipIdx.foldl (fun (cs : Array Value) (x : Value × Nat) => cs.setIfInBounds (i * sz + x.2) x.1) c) (es.set i (cellsOf (px.ev ts))) :=
    rs_set hc hcx g1 g2 (by rw [hz]; simp)
   obtain ⟨c', k1, k2, k3⟩ := fillS_ok hrep htl (c := _) (es := es.set i (cellsOf (px.ev ts))) this (fun q hq => hone q (by simp [hq])) h
   exact ⟨c', k1, k2, by simpa using k3⟩
  ·cases h
theorem made_rs {rep : Value → D → Prop} {z : Array Value} {zs : List D} {sz : Nat} (h : CR rep z.toList zs) (hl : zs.length = sz) (h0 : 0 < sz) (n : Nat) : RS rep sz (madeCells z (n * sz)) (List.replicate n zs) := by
 have hz : z.size = sz := by rw [← hl]; simpa using h.1
 refine ⟨by simp [size_madeCells], fun e he => by rw [(List.mem_replicate.1 he).2]; exact hl, fun i j e d he hd => ?_⟩
 rw [List.getElem?_replicate] at he
 split at he
 ·rename_i hi
  injection he with he
  subst he
  have hj : j < sz := by rw [← hl]; exact (List.getElem?_eq_some_iff.1 hd).1
  obtain ⟨u, a1, a2, a3⟩ := h.2 j d hd
  have hb : i * sz + j < n * sz := by
   have : (i + 1) * sz ≤ n * sz := Nat.mul_le_mul_right _ (by omega)
   rw [Nat.succ_mul] at this
   omega
  refine ⟨u, ?_, a2, a3⟩
  unfold madeCells
  rw [Array.getElem?_map, Array.getElem?_range]
  simp only [hb, if_true, Option.map_some]
  rw [hz, show (i * sz + j) % sz = j by rw [Nat.mul_comm, Nat.mul_add_mod, Nat.mod_eq_of_lt hj]]
  congr 1
  rw [getElem!_def]
  have : z[j]? = some u := by simpa using a1
  rw [this]
 ·cases he
theorem rs_inv {rep : Value → D → Prop} {sz n : Nat} {c : Array Value} {es : List (List D)} (h : RS rep sz c es) (hl : es.length = n) : c.size = n * sz := by rw [h.size, hl]
theorem op_buildSlice (hI : Inv fm B w G H) (hts : TsR (Rep fm G (okB B G H w) w) a.tmps ts) {t e : TypeId} {n : Nat} {parts : Array (Nat × Operand)} {ie : TypeInfo} {z : Value} {zs : List D} {sz : Nat} {qs : List (Nat × PX)}
  (ho : o.op = .buildSlice t n parts) (hu : P.underlying t = some (.slice e)) (hie : P.info? e = some ie) (hz : ie.zero = some z) (hsz : ie.size = sz) (h0 : 0 < sz) (hzs : CR (ClosedV fm) z.cells.toList zs) (hzl : zs.length = sz)
  (hsm : n * sz ≤ 16777216) (hp : TrS fm parts.toList qs) (hrun : (opE call (PX.ev ts) r (.buildSlice sz n zs qs)).run H = some out) : OpOk P o a w (Post fm B w G H out) := by
 simp only [opE] at hrun
 split at hrun
 ·rename_i hone
  cases hf : fillS sz (List.replicate n zs) (qs.map fun p => (p.1, p.2.ev ts)) with
  | none => rw [hf] at hrun; simp [Eff.run] at hrun
  | some es' =>
   rw [hf] at hrun
   obtain ⟨h1, h2, h3⟩ := run_new hrun
   simp only [Eff.run, Option.some.injEq] at h3
   subst h3
   have hrs := made_rs (hzs.mono (fun v d h => Rep.closed (fm := fm) (G := G) (ok := okB B G H w) (w := w) (h _ _))) hzl h0 n
   obtain ⟨c', k1, k2, k3⟩ := fillS_ok (a := a) (ts := ts) (rep := Rep fm G (okB B G H w) w) (fun hx h1 => rep_cells (ev_rep hts hx) h1) hp (c := madeCells z.cells (n * sz))
    hrs (fun q hq => by simpa using List.all_eq_true.1 hone q hq) hf
   have hl : es'.length = n := by simpa using k3
   have hcap : n ≤ maxLen := by
    have : n ≤ n * sz := Nat.le_mul_of_pos_right n h0
    simp only [maxLen]; omega
   obtain ⟨ha, hI'⟩ := inv_new (w' := w.alloc (.cells c' e)) hI h1 h2 (NewBlk.alloc w c' e) (rs_inv k2 hl) (by omega) hcap k2.each k2.cell
   refine opOk_val (v := .slice (some ⟨w.heap.size, 0, none⟩) n n) (w' := w.alloc (.cells c' e)) ?_ ⟨_, ha, hI', rep_ref_new _ _ _ _ (Nat.le_refl _)⟩
   have hbs : (Instr.buildSlice t n (parts.map fun p => (p.1, a.eval p.2))).run P w = .ok (.slice (some ⟨w.heap.size, 0, none⟩) n n) (w.alloc (.cells c' e)) := by
    by_cases hn : n = 0
    ·subst hn
     have er : Array.range 0 = #[] := rfl
     have hc' : Instr.fill (fun i => some (i * ie.size, ie.size)) #[] (parts.map fun p => (p.1, a.eval p.2)).toList = some c' := by
      simpa [madeCells, hsz, er] using k1
     simp [Instr.buildSlice, run_underlying hu, sizeOf, typeInfo, hie, newRow, er] at hc' ⊢
     rw [hc']
     simp
    ·refine run_buildSlice w t e n _ c' ie z hu hie hz (by rw [hsz]; omega) (by rw [hsz]; exact Nat.mul_ne_zero hn (by omega)) ?_
     rw [hsz]
     simpa [madeCells] using k1
   simp only [execOp, ho, Sem.run_bind]
   have he : (Instr.buildSlice t n (parts.map fun (x : Nat × Operand) => match x with | (i, x) => (i, a.eval x))).run P w = .ok (.slice (some ⟨w.heap.size, 0, none⟩) n n) (w.alloc (.cells c' e)) := hbs
   rw [he]
   rfl
 ·simp [Eff.run] at hrun
theorem op_makeSlice (hI : Inv fm B w G H) (hts : TsR (Rep fm G (okB B G H w) w) a.tmps ts) {t e : TypeId} {i : TypeInfo} {z : Value} {zs : List D} {sz bytes : Nat} {x y : Operand} {px py : PX}
  (ho : o.op = .makeSlice t x y) (hu : P.underlying t = some (.slice e)) (hi : P.info? e = some i) (hz : i.zero = some z) (hsz : i.size = sz) (hby : i.bytes = bytes) (h0 : 0 < sz)
  (hzs : CR (ClosedV fm) z.cells.toList zs) (hzl : zs.length = sz) (hx : TrX fm x px) (hy : TrX fm y py)
  (hrun : (opE call (PX.ev ts) r (.makeSlice sz bytes zs px py)).run H = some out) : OpOk P o a w (Post fm B w G H out) := by
 have hvx := ev_rep hts hx
 have hvy := ev_rep hts hy
 simp only [opE] at hrun
 split at hrun
 ·rename_i k1 n k2 m e1 e2
  split at hrun
  ·rename_i hc
   obtain ⟨g1, g2, g3, g4⟩ := hc
   subst g2
   obtain ⟨h1, h2, h3⟩ := run_new hrun
   simp only [Eff.run, Option.some.injEq] at h3
   subst h3
   rw [e1] at hvx; rw [e2] at hvy
   have vx := hvx.inv_int
   have vy := hvy.inv_int
   have hroom : (roomy : Int) = 1099511627776 := rfl
   have hrs := made_rs (hzs.mono (fun v d h => Rep.closed (fm := fm) (G := G) (ok := okB B G H w) (w := w) (h _ _))) hzl h0 n.toNat
   have hcap : n.toNat ≤ maxLen := by simp only [maxLen]; omega
   obtain ⟨ha, hI'⟩ := inv_new (w' := w.alloc (.cells (madeCells z.cells (n.toNat * sz)) e)) hI h1 h2 (NewBlk.alloc w _ e) (by simp [size_madeCells]) (by simp) hcap hrs.each hrs.cell
   refine opOk_val (v := .slice (some ⟨w.heap.size, 0, none⟩) n.toNat n.toNat) (w' := w.alloc (.cells (madeCells z.cells (n.toNat * sz)) e)) ?_ ⟨_, ha, hI', rep_ref_new _ _ _ _ (Nat.le_refl _)⟩
   have hr := run_make (P := P) w t e i z hu hi hz k1 k2 n n g1 (Int.le_refl _) (by rw [hby, Int.mul_comm]; omega) (by omega)
   rw [hsz] at hr
   simp only [execOp, ho, Sem.run_bind, vx, vy, hr, Result.andThen_ok, Sem.run_pure]
  ·simp [Eff.run] at hrun
 ·simp [Eff.run] at hrun
end
end Go.Pi
namespace Go.Pi
set_option linter.unusedVariables false
section
variable {P : Program} {fm : Nat → Nat} {B : Base} {w : World} {G : Gh} {H : Heap} {o : Oper} {a : Act} {ts : List D} {call : CallF} {r : Nat} {out : Out}
theorem op_mv (hI : Inv fm B w G H) (hts : TsR (Rep fm G (okB B G H w) w) a.tmps ts) {x : Operand} {px : PX} (ho : o.op = .move x ∨ o.op = .assign x) (hx : TrX fm x px)
  (hrun : (opE call (PX.ev ts) r (.mv px)).run H = some out) : OpOk P o a w (Post fm B w G H out) := by
 obtain rfl := run_quiet (by exact hrun)
 refine opOk_val (v := a.eval x) (w' := w) ?_ (post_quiet hI (ev_rep hts hx))
 rcases ho with ho | ho <;> simp [execOp, ho]
theorem op_pick (hI : Inv fm B w G H) (hts : TsR (Rep fm G (okB B G H w) w) a.tmps ts) {c x y : Operand} {pc px py : PX} (ho : o.op = .pick c x y) (hc : TrX fm c pc) (hx : TrX fm x px) (hy : TrX fm y py)
  (hrun : (opE call (PX.ev ts) r (.pick pc px py)).run H = some out) : OpOk P o a w (Post fm B w G H out) := by
 have hv := ev_rep hts hc
 simp only [opE] at hrun
 split at hrun
 ·rename_i t e
  rw [e] at hv
  have hb := hv.inv_bool
  obtain rfl := run_quiet hrun
  refine opOk_val (v := if t then a.eval x else a.eval y) (w' := w) ?_ (post_quiet hI ?_)
  ·simp [execOp, ho, hb, asBool]
  ·cases t
   ·exact ev_rep hts hy
   ·exact ev_rep hts hx
 ·simp [Eff.run] at hrun
theorem op_nilCheck (hI : Inv fm B w G H) (hts : TsR (Rep fm G (okB B G H w) w) a.tmps ts) {x : Operand} {px : PX} (ho : o.op = .nilCheck x) (hx : TrX fm x px)
  (hrun : (opE call (PX.ev ts) r (.nilCheck px)).run H = some out) : OpOk P o a w (Post fm B w G H out) := by
 have hv := ev_rep hts hx
 simp only [opE] at hrun
 split at hrun
 ·rename_i id off e
  obtain rfl := run_quiet hrun
  rw [e] at hv
  obtain ⟨b, cap, sz, hg⟩ := GS.ne_fresh hv.ptr_fresh
  have hvv := hv.inv_ptr hg
  refine opOk_val (v := a.eval x) (w' := w) ?_ (post_quiet hI hv)
  simp [execOp, ho, hvv]
 ·rename_i cs e
  obtain rfl := run_quiet hrun
  rw [e] at hv
  obtain ⟨b, off, vs, hvv, _, _, _⟩ := fptr_range hv.inv_fptr
  refine opOk_val (v := a.eval x) (w' := w) ?_ (post_quiet hI hv)
  simp [execOp, ho, hvv]
 ·simp [Eff.run] at hrun
def pairOk : Value → Value → Bool
 | .nilIface, .nilIface => false
 | .agg _, .agg _ => false
 | _, _ => true
theorem run_eqGuard_int (op : BinOp) (t : TypeId) (x y : Operand) {u v : Value} (h : pairOk u v = true) :
  (eqGuard op t x y u v).run P w = .ok () w := by
 cases op <;> simp only [eqGuard] <;> first
  | rfl
  | (cases u <;> cases v <;> first | rfl | (simp [pairOk] at h))
theorem binI_ok {op : BinOp} {k : IntKind} {m n : Int} {d : D} (h : binI op k m n = some d) (t : TypeId) (hs : op ≠ .shl ∧ op ≠ .shr) : ∃ v, (binOp op t (.int k m) (.int k n)).run P w = .ok v w ∧ ∀ ok w, RepC fm ok w v d := by
 cases op <;> simp only [binI, Option.some.injEq, reduceCtorEq] at h
 case quo =>
  split at h
  ·cases h
  ·rename_i hn
   injection h with h
   subst h
   exact ⟨_, by simp [binOp, Op.intDiv, hn], fun _ _ => .int _ _⟩
 case rem =>
  split at h
  ·cases h
  ·rename_i hn
   injection h with h
   subst h
   exact ⟨_, by simp [binOp, Op.intDiv, hn], fun _ _ => .int _ _⟩
 case and | or | xor | andNot =>
  subst h
  refine ⟨_, ?_, fun _ _ => .int _ _⟩
  ·refine (show _ = Sem.run P (if k ≠ k then stuck "BinOp: operands of different kinds" else Op.intBits _ k m n) w from rfl).trans ?_
   rw [if_neg (by simp)]
   rfl
 case add | sub | mul =>
  subst h
  refine ⟨_, ?_, fun _ _ => .int _ _⟩
  ·simp [binOp, Op.intArith]
 all_goals
  subst h
  refine ⟨_, ?_, fun _ _ => .bool _⟩
  simp [binOp, Op.intCmp]
theorem shiftI_ok {op : BinOp} {k k' : IntKind} {m n : Int} {d : D} (h : shiftI op k m n = some d) (t : TypeId) : ∃ v, (binOp op t (.int k m) (.int k' n)).run P w = .ok v w ∧ ∀ ok w, RepC fm ok w v d := by
 unfold shiftI at h
 split at h
 ·cases h
 ·rename_i hn
  cases op <;> simp only [Option.some.injEq, reduceCtorEq] at h
  all_goals
   subst h
   exact ⟨_, by simp [binOp, Op.shift, hn], fun _ _ => .int _ _⟩
theorem toList_mk (l : List UInt8) : (⟨l.toArray⟩ : ByteArray).toList = l := by
 rw [ByteArray.toList_eq]
theorem binS_ok {op : BinOp} {m n : List UInt8} {d : D} (h : binS op m n = some d) (t : TypeId) : ∃ v, (binOp op t (.string ⟨m.toArray⟩) (.string ⟨n.toArray⟩)).run P w = .ok v w ∧ ∀ ok w, RepC fm ok w v d := by
 have e1 := toList_mk m
 have e2 := toList_mk n
 have s1 : (⟨m.toArray⟩ : ByteArray).size = m.length := rfl
 have s2 : (⟨n.toArray⟩ : ByteArray).size = n.length := rfl
 cases op <;> simp only [binS, Option.some.injEq, reduceCtorEq] at h
 case add =>
  split at h
  ·rename_i hl
   injection h with h
   subst h
   refine ⟨.string ⟨(m ++ n).toArray⟩, ?_, fun _ _ => .str _⟩
   have hmax : IntKind.max .i64 = 9223372036854775807 := by decide
   have h1 : ¬ (((m.length + n.length : Nat) : Int) > IntKind.max .i64) := by rw [hmax]; omega
   have ha : (⟨m.toArray⟩ : ByteArray) ++ (⟨n.toArray⟩ : ByteArray) = ⟨(m ++ n).toArray⟩ := by
    apply ByteArray.ext
    simp [ByteArray.data_append]
   simp only [binOp, Op.stringOp, s1, s2, if_neg h1, ha]
   rfl
  ·cases h
 all_goals
  subst h
  refine ⟨_, ?_, fun _ _ => .bool _⟩
  simp [binOp, Op.stringOp, e1, e2]
theorem nan_read {m : Nat} (h : nanBits m) : ∃ s t, FloatKind.f64.format.read m = .nan s t := by
 unfold nanBits Ieee.Format.order at h
 cases hr : FloatKind.f64.format.read m with
 | nan s t => exact ⟨s, t, rfl⟩
 | number s a e => rw [hr] at h; simp [Ieee.Datum.order] at h
 | infinity s => rw [hr] at h; simp [Ieee.Datum.order] at h
theorem read_nan {m : Nat} {s : Bool} {t : Nat} (h : FloatKind.f64.format.read m = .nan s t) : nanBits m := by
 unfold nanBits Ieee.Format.order
 rw [h]
 rfl
theorem read_rung {f : Ieee.Format} {x r : Nat} (h : x % f.signWeight = r) (h1 : ¬ r < f.binade) (h2 : ¬ r < f.infRung) (h3 : ¬ r = f.infRung) : ∃ s t, f.read x = .nan s t := by
 unfold Ieee.Format.read
 simp only [h]
 rw [if_neg h1, if_neg h2, if_neg h3]
 exact ⟨_, _, rfl⟩
theorem rung_read {f : Ieee.Format} {x : Nat} {s : Bool} {t : Nat} (e : f.read x = .nan s t) : ¬ x % f.signWeight < f.binade ∧ ¬ x % f.signWeight < f.infRung ∧ ¬ x % f.signWeight = f.infRung := by
 unfold Ieee.Format.read at e
 simp only at e
 split at e
 ·cases e
 ·split at e
  ·cases e
  ·split at e
   ·cases e
   ·rename_i h1 h2 h3
    exact ⟨h1, h2, h3⟩
theorem f64_sign : FloatKind.f64.format.signWeight = 2 ^ 63 := by decide +kernel
theorem f64_bin : FloatKind.f64.format.binade = 2 ^ 52 := by decide +kernel
theorem f64_inf : FloatKind.f64.format.infRung = 0x7ff0000000000000 := by decide +kernel
theorem nan_of_rung {x r : Nat} (h : x % 2 ^ 63 = r) (h1 : 0x7ff0000000000000 < r) : nanBits x := by
 obtain ⟨s, t, e⟩ := read_rung (f := FloatKind.f64.format) (x := x) (r := r) (by rw [f64_sign]; exact h) (by rw [f64_bin]; omega) (by rw [f64_inf]; omega) (by rw [f64_inf]; omega)
 exact read_nan e
theorem nan_rung {x : Nat} (h : nanBits x) : 0x7ff0000000000000 < x % 2 ^ 63 := by
 obtain ⟨s, t, e⟩ := nan_read h
 obtain ⟨h1, h2, h3⟩ := rung_read e
 rw [f64_sign, f64_inf] at h2 h3
 omega
theorem nan_cut (m n t : Nat) : nanBits ((Question.nanBits .f64 m n).cut t) := by
 simp only [Question.cut]
 have h1 : t / 2 % (2 ^ 52 - 1) < 2 ^ 52 - 1 := Nat.mod_lt _ (by decide)
 generalize t / 2 % (2 ^ 52 - 1) = q at h1
 have h2 : t % 2 < 2 := Nat.mod_lt _ (by decide)
 generalize t % 2 = s at h2
 exact nan_of_rung (r := 0x7ff0000000000000 + 1 + q) (by omega) (by omega)
theorem floatArith_ok {op : BinOp} {f : Nat → Nat → Option Nat} (hf : ∀ k x y (w : World), (Op.floatArith op .f64 x y).run P w = k → k = match f x y with
  | some r => .ok (.float .f64 r) w
  | none => .ok (.float .f64 ((Question.nanBits .f64 x y).cut (w.tape w.drawn (.nanBits .f64 x y)))) w.drew)
  (hn : ∀ x y, (nanBits x ∨ nanBits y) → f x y = none) {a b : Fl} {m n : Nat} (ha : FlB a m) (hb : FlB b n) :
  ∃ v w', (Op.floatArith op .f64 m n).run P w = .ok v w' ∧ (w' = w ∨ w' = w.drew) ∧ ∀ ok w, RepC fm ok w v (.flt (a.bind fun x => b.bind fun y => f x y)) := by
 have e := hf _ m n w rfl
 have hnone : f m n = none → ∃ v w', (Op.floatArith op .f64 m n).run P w = .ok v w' ∧ (w' = w ∨ w' = w.drew) ∧ ∀ ok w, RepC fm ok w v (.flt none) := by
  intro h
  rw [h] at e
  exact ⟨_, _, e, .inr rfl, fun _ _ => .flt none _ (nan_cut _ _ _)⟩
 cases a with
 | none => exact hnone (hn _ _ (.inl ha))
 | some x =>
  cases b with
  | none => exact hnone (hn _ _ (.inr hb))
  | some y =>
   obtain rfl : m = x := ha
   obtain rfl : n = y := hb
   simp only [Option.bind_some]
   cases hfx : f m n with
   | none => exact hnone hfx
   | some r => rw [hfx] at e; exact ⟨_, _, e, .inl rfl, fun _ _ => .flt (some _) _ rfl⟩
theorem fOrd_ok {a b : Fl} {m n : Nat} (ha : FlB a m) (hb : FlB b n) : FloatKind.f64.format.order m n = fOrd a b := by
 unfold fOrd
 have key : (nanBits m ∨ nanBits n) → FloatKind.f64.format.order m n = none := by
  rintro (h | h)
  ·obtain ⟨s, t, e⟩ := nan_read h
   unfold Ieee.Format.order
   rw [e]
   cases FloatKind.f64.format.read n <;> rfl
  ·obtain ⟨s, t, e⟩ := nan_read h
   unfold Ieee.Format.order
   rw [e]
   cases FloatKind.f64.format.read m <;> rfl
 cases a with
 | none => exact key (.inl ha)
 | some x =>
  cases b with
  | none => exact key (.inr hb)
  | some y =>
   obtain rfl : m = x := ha
   obtain rfl : n = y := hb
   rfl
theorem arith_nan (m n : Nat) (h : nanBits m ∨ nanBits n) : FloatKind.f64.format.add m n = none ∧ FloatKind.f64.format.sub m n = none ∧ FloatKind.f64.format.mul m n = none ∧ FloatKind.f64.format.div m n = none := by
 unfold Ieee.Format.add Ieee.Format.sub Ieee.Format.mul Ieee.Format.div
 rcases h with h | h
 ·obtain ⟨s, t, e⟩ := nan_read h
  rw [e]
  cases FloatKind.f64.format.read n <;> simp [Ieee.Datum.sum, Ieee.Datum.product, Ieee.Datum.quotient, Ieee.Datum.opposite]
 ·obtain ⟨s, t, e⟩ := nan_read h
  rw [e]
  cases FloatKind.f64.format.read m <;> simp [Ieee.Datum.sum, Ieee.Datum.product, Ieee.Datum.quotient, Ieee.Datum.opposite]
theorem fltD_ok {op : BinOp} {a b : Fl} {m n : Nat} {d : D} (ha : FlB a m) (hb : FlB b n) (h : fltD op a b = some d) (t : TypeId) :
  ∃ v w', (binOp op t (.float .f64 m) (.float .f64 n)).run P w = .ok v w' ∧ (w' = w ∨ w' = w.drew) ∧ ∀ ok w, RepC fm ok w v d := by
 have ho := fOrd_ok ha hb
 have hfin : ∀ (k : Question), k = .nanBits .f64 m n → k.forced = false := by rintro k rfl; rfl
 cases op <;> simp only [fltD, Option.some.injEq, reduceCtorEq] at h
 case add =>
  subst h
  refine floatArith_ok (P := P) (w := w) (fm := fm) (op := .add) (f := FloatKind.f64.format.add) ?_ (fun x y h => (arith_nan x y h).1) ha hb
  rintro k x y w rfl
  simp only [Op.floatArith]
  cases h : FloatKind.f64.format.add x y <;> simp [h, run_choose_drew, Question.forced]
 case sub =>
  subst h
  refine floatArith_ok (P := P) (w := w) (fm := fm) (op := .sub) (f := FloatKind.f64.format.sub) ?_ (fun x y h => (arith_nan x y h).2.1) ha hb
  rintro k x y w rfl
  simp only [Op.floatArith]
  cases h : FloatKind.f64.format.sub x y <;> simp [h, run_choose_drew, Question.forced]
 case mul =>
  subst h
  refine floatArith_ok (P := P) (w := w) (fm := fm) (op := .mul) (f := FloatKind.f64.format.mul) ?_ (fun x y h => (arith_nan x y h).2.2.1) ha hb
  rintro k x y w rfl
  simp only [Op.floatArith]
  cases h : FloatKind.f64.format.mul x y <;> simp [h, run_choose_drew, Question.forced]
 case quo =>
  subst h
  refine floatArith_ok (P := P) (w := w) (fm := fm) (op := .quo) (f := FloatKind.f64.format.div) ?_ (fun x y h => (arith_nan x y h).2.2.2) ha hb
  rintro k x y w rfl
  simp only [Op.floatArith]
  cases h : FloatKind.f64.format.div x y <;> simp [h, run_choose_drew, Question.forced]
 all_goals (subst h; refine ⟨_, w, by simp only [binOp, Op.floatCmp, ho]; simp, .inl rfl, fun _ _ => .bool _⟩)
theorem FlB_neg {a : Fl} {m : Nat} (h : FlB a m) : FlB (fNeg a) (m ^^^ 2 ^ 63) := by
 cases a with
 | some b => obtain rfl : m = b := h; rfl
 | none =>
  have hm : (m ^^^ 2 ^ 63) % 2 ^ 63 = m % 2 ^ 63 := by rw [Nat.xor_mod_two_pow]; simp
  exact nan_of_rung hm (nan_rung h)
theorem op_bin (hI : Inv fm B w G H) (hts : TsR (Rep fm G (okB B G H w) w) a.tmps ts) {op : BinOp} {t u : TypeId} {x y : Operand} {px py : PX} (ho : o.op = .binOp op t x y u) (hx : TrX fm x px) (hy : TrX fm y py)
  (hrun : (opE call (PX.ev ts) r (.bin op px py)).run H = some out) : OpOk P o a w (Post fm B w G H out) := by
 have hvx := ev_rep hts hx
 have hvy := ev_rep hts hy
 obtain ⟨d, hd, rfl⟩ := run_quietO (by exact hrun)
 have key : ∃ v w', (eqGuard op t x y (a.eval x) (a.eval y)).run P w = .ok () w ∧ (binOp op t (a.eval x) (a.eval y)).run P w = .ok v w' ∧ (w' = w ∨ w' = w.drew) ∧ ∀ ok w, RepC fm ok w v d := by
  unfold binD at hd
  split at hd
  ·rename_i k m k' n e1 e2
   rw [e1] at hvx; rw [e2] at hvy
   rw [hvx.inv_int, hvy.inv_int]
   split at hd
   ·obtain ⟨v, h1, h2⟩ := shiftI_ok (P := P) (w := w) (fm := fm) (k' := k') hd t
    exact ⟨v, w, run_eqGuard_int _ _ _ _ rfl, h1, .inl rfl, h2⟩
   ·obtain ⟨v, h1, h2⟩ := shiftI_ok (P := P) (w := w) (fm := fm) (k' := k') hd t
    exact ⟨v, w, run_eqGuard_int _ _ _ _ rfl, h1, .inl rfl, h2⟩
   ·rename_i hs1 hs2
    split at hd
    ·rename_i hk
     subst hk
     obtain ⟨v, h1, h2⟩ := binI_ok (P := P) (w := w) (fm := fm) hd t ⟨fun e => hs1 e, fun e => hs2 e⟩
     exact ⟨v, w, run_eqGuard_int _ _ _ _ rfl, h1, .inl rfl, h2⟩
    ·cases hd
  ·rename_i m n e1 e2
   rw [e1] at hvx; rw [e2] at hvy
   rw [hvx.inv_str, hvy.inv_str]
   obtain ⟨v, h1, h2⟩ := binS_ok (P := P) (w := w) (fm := fm) hd t
   exact ⟨v, w, run_eqGuard_int _ _ _ _ rfl, h1, .inl rfl, h2⟩
  ·rename_i b1 b2 f1 f2
   rw [f1] at hvx; rw [f2] at hvy
   obtain ⟨m, e1, g1⟩ := hvx.inv_flt
   obtain ⟨n, e2, g2⟩ := hvy.inv_flt
   rw [e1, e2]
   obtain ⟨v, w', h1, h2, h3⟩ := fltD_ok (P := P) (w := w) (fm := fm) g1 g2 hd t
   exact ⟨v, w', run_eqGuard_int _ _ _ _ rfl, h1, h2, h3⟩
  ·cases hd
 obtain ⟨v, w', k1, k2, k3, k4⟩ := key
 have hrun : (execOp a.eval o).run P w = .ok (.value v) w' := by simp only [execOp, ho, Sem.run_bind, k1, k2, Result.andThen_ok, Sem.run_pure]
 rcases k3 with rfl | rfl
 ·exact opOk_val hrun (post_quiet hI (.closed (k4 _ _)))
 ·obtain ⟨g1, g2⟩ := inv_drew hI
  exact opOk_val hrun ⟨G, g1, g2, .closed (k4 _ _)⟩
theorem op_eqB (hI : Inv fm B w G H) (hts : TsR (Rep fm G (okB B G H w) w) a.tmps ts) {neg : Bool} {t u : TypeId} {x y : Operand} {px py : PX} (ho : o.op = .binOp (if neg then .neq else .eql) t x y u)
  (ht : P.underlying t = some .bool) (hx : TrX fm x px) (hy : TrX fm y py) (hrun : (opE call (PX.ev ts) r (.eqB neg px py)).run H = some out) : OpOk P o a w (Post fm B w G H out) := by
 have hvx := ev_rep hts hx
 have hvy := ev_rep hts hy
 simp only [opE] at hrun
 split at hrun
 ·rename_i m n e1 e2
  obtain rfl := run_quiet hrun
  rw [e1] at hvx; rw [e2] at hvy
  have vx := hvx.inv_bool
  have vy := hvy.inv_bool
  refine opOk_val (v := .bool (if neg then !(m == n) else m == n)) (w' := w) ?_ (post_quiet hI (.closed (.bool _)))
  have hg := run_eqGuard_int (P := P) (w := w) (if neg then .neq else .eql) t x y (u := .bool m) (v := .bool n) rfl
  have he := run_equal_bool (P := P) w t m n ht
  cases neg <;> simp only [Bool.false_eq_true, if_true, if_false] at ho hg ⊢ <;>
   simp only [execOp, ho, Sem.run_bind, vx, vy, hg, Result.andThen_ok, binOp, he, Sem.run_pure]
 ·simp [Eff.run] at hrun
theorem eqN_end {neg t' : Bool} {t u : TypeId} {x : Operand} {y : Value} (hI : Inv fm B w G H) (ho : o.op = .binOp (if neg then .neq else .eql) t x (.const y) u)
  (hk : (∃ A l c, a.eval x = .slice A l c) ∨ (∃ A, a.eval x = .pointer A)) (h1 : (Op.equal t (a.eval x) y).run P w = .ok t' w) (hy : (∃ A l c, y = .slice A l c) ∨ (∃ A, y = .pointer A)) :
  OpOk P o a w (Post fm B w G H ⟨.bool (if neg then !t' else t'), [], []⟩) := by
 have hp : pairOk (a.eval x) y = true := by rcases hk with ⟨A, l, c, h⟩ | ⟨A, h⟩ <;> (rw [h]; rfl)
 have k2 := run_eqGuard_int (P := P) (w := w) (if neg then .neq else .eql) t x (.const y) hp
 have k3 : (binOp (if neg then .neq else .eql) t (a.eval x) y).run P w = .ok (.bool (if neg then !t' else t')) w := by
  rcases hk with ⟨A, l, c, h⟩ | ⟨A, h⟩ <;> rw [h] at h1 ⊢ <;> rcases hy with ⟨_, _, _, rfl⟩ | ⟨_, rfl⟩ <;> cases neg <;> simp [binOp, h1]
 refine opOk_val (v := .bool (if neg then !t' else t')) (w' := w) ?_ (post_quiet hI (.closed (.bool _)))
 simp only [execOp, ho, Sem.run_bind, show a.eval (.const y) = y from rfl, k2, k3, Result.andThen_ok, Sem.run_pure]
theorem op_eqNS (hI : Inv fm B w G H) (hts : TsR (Rep fm G (okB B G H w) w) a.tmps ts) {neg : Bool} {t u e : TypeId} {x : Operand} {px : PX}
  (ho : o.op = .binOp (if neg then .neq else .eql) t x (.const (.slice none 0 0)) u) (ht : P.underlying t = some (.slice e)) (hx : TrX fm x px)
  (hrun : (opE call (PX.ev ts) r (.eqNS neg px)).run H = some out) : OpOk P o a w (Post fm B w G H out) := by
 have hvx := ev_rep hts hx
 obtain ⟨d, hd, rfl⟩ := run_quietO (by exact hrun)
 simp only [Option.map_eq_some_iff] at hd
 obtain ⟨t', hn, rfl⟩ := hd
 have hs : ∀ A l c, a.eval x = .slice A l c → (Op.equal t (a.eval x) (.slice none 0 0)).run P w = .ok A.isNone w := by
  intro A l c he
  rw [he]
  exact run_equal_slice_nil w t e A l c ht
 have key : ∃ A l c, a.eval x = .slice A l c ∧ A.isNone = t' := by
  cases hdd : px.ev ts <;> rw [hdd] at hvx hn <;> simp only [isNilS, Option.some.injEq, reduceCtorEq] at hn
  case nil =>
   subst hn
   exact ⟨_, _, _, hvx.inv_nil, rfl⟩
  case ref id off len =>
   subst hn
   obtain ⟨b, cap, sz, hg⟩ := GS.ne_fresh hvx.ref_fresh
   obtain ⟨_, A, hv, _⟩ := hvx.inv_ref hg
   exact ⟨_, _, _, hv, rfl⟩
  case lst sz es =>
   subst hn
   have hc := hvx.inv_lst
   cases hr : a.eval x with
   | slice A l c =>
    rw [hr] at hc
    cases hc with
    | lst0 => exact ⟨_, _, _, rfl, rfl⟩
    | lst1 => exact ⟨_, _, _, rfl, rfl⟩
   | _ => rw [hr] at hc; cases hc
 obtain ⟨A, l, c, h1, rfl⟩ := key
 exact eqN_end hI ho (.inl ⟨A, l, c, h1⟩) (hs A l c h1) (.inl ⟨_, _, _, rfl⟩)
theorem op_eqNP (hI : Inv fm B w G H) (hts : TsR (Rep fm G (okB B G H w) w) a.tmps ts) {neg : Bool} {t u e : TypeId} {x : Operand} {px : PX}
  (ho : o.op = .binOp (if neg then .neq else .eql) t x (.const (.pointer none)) u) (ht : P.underlying t = some (.pointer e)) (hx : TrX fm x px)
  (hrun : (opE call (PX.ev ts) r (.eqNP neg px)).run H = some out) : OpOk P o a w (Post fm B w G H out) := by
 have hvx := ev_rep hts hx
 obtain ⟨d, hd, rfl⟩ := run_quietO (by exact hrun)
 simp only [Option.map_eq_some_iff] at hd
 obtain ⟨t', hn, rfl⟩ := hd
 have hs : ∀ A, a.eval x = .pointer A → (Op.equal t (a.eval x) (.pointer none)).run P w = .ok A.isNone w := by
  intro A he
  rw [he]
  exact run_equal_pointer_nil w t A (by rw [ht]; simp [Program.pointee, ht])
 have key : ∃ A, a.eval x = .pointer A ∧ A.isNone = t' := by
  cases hdd : px.ev ts <;> rw [hdd] at hvx hn <;> simp only [isNilP, Option.some.injEq, reduceCtorEq] at hn
  case nilp =>
   subst hn
   exact ⟨_, hvx.inv_nilp, rfl⟩
  case fptr =>
   subst hn
   obtain ⟨b, off, vs, hvv, _, _, _⟩ := fptr_range hvx.inv_fptr
   exact ⟨_, hvv, rfl⟩
  case ptr id off =>
   subst hn
   obtain ⟨b, cap, sz, hg⟩ := GS.ne_fresh hvx.ptr_fresh
   exact ⟨_, hvx.inv_ptr hg, rfl⟩
 obtain ⟨A, h1, rfl⟩ := key
 exact eqN_end hI ho (.inr ⟨A, h1⟩) (hs A h1) (.inr ⟨_, rfl⟩)
theorem op_un (hI : Inv fm B w G H) (hts : TsR (Rep fm G (okB B G H w) w) a.tmps ts) {op : UnOp} {t : TypeId} {x : Operand} {px : PX} (ho : o.op = .unOp op t x) (hx : TrX fm x px)
  (hrun : (opE call (PX.ev ts) r (.un op px)).run H = some out) : OpOk P o a w (Post fm B w G H out) := by
 have hvx := ev_rep hts hx
 obtain ⟨d, hd, rfl⟩ := run_quietO (by exact hrun)
 have key : ∃ v, (Op.unary op (a.eval x)).run P w = .ok v w ∧ ∀ ok w, RepC fm ok w v d := by
  unfold unD at hd
  split at hd
  ·rename_i k n e1
   injection hd with hd
   subst hd
   rw [e1] at hvx
   rw [hvx.inv_int]
   exact ⟨_, by simp [Op.unary, Op.intArith], fun _ _ => .int _ _⟩
  ·rename_i k n e1
   rw [e1] at hvx
   rw [hvx.inv_int]
   simp only [binI, Option.some.injEq] at hd
   subst hd
   exact ⟨_, rfl, fun _ _ => .int _ _⟩
  ·rename_i b e1
   injection hd with hd
   subst hd
   rw [e1] at hvx
   rw [hvx.inv_bool]
   exact ⟨_, by simp [Op.unary], fun _ _ => .bool _⟩
  ·rename_i b e1
   injection hd with hd
   subst hd
   rw [e1] at hvx
   obtain ⟨m, e2, g⟩ := hvx.inv_flt
   rw [e2]
   exact ⟨.float .f64 (m ^^^ 2 ^ 63), rfl, fun ok w => .flt _ _ (FlB_neg g)⟩
  ·cases hd
 obtain ⟨v, k1, k2⟩ := key
 refine opOk_val (v := v) (w' := w) ?_ (post_quiet hI (.closed (k2 _ _)))
 simp only [execOp, ho, Sem.run_bind, k1, Result.andThen_ok, Sem.run_pure]
end
end Go.Pi
namespace Go.Pi
set_option linter.unusedVariables false
section
variable {P : Program} {fm : Nat → Nat} {B : Base} {w : World} {G : Gh} {H : Heap} {o : Oper} {a : Act} {ts : List D} {call : CallF} {r : Nat} {out : Out}
theorem lst_range {ok : Nat → Prop} {sz : Nat} {es : List (List D)} {v : Value} (h : RepC fm ok w v (.lst sz es)) :
  (es = [] ∧ ∃ (A : Addr) (c : Nat), v = .slice (some A) 0 c) ∨ (∃ b o c, v = .slice (some ⟨b, o, none⟩) es.length c ∧ es.length ≤ c ∧ ok b ∧ (∀ e ∈ es, e.length = sz) ∧
   ∀ (i : Nat) (e : List D), es[i]? = some e → ∃ cs, CR (RepC fm ok w) cs e ∧ w.rangeAt b (o + i * sz) cs) := by
 cases h with
 | lst0 _ A c => exact .inl ⟨rfl, A, c, rfl⟩
 | lst1 _ _ b o c u hc hok hlen hcell hone hrep =>
  refine .inr ⟨b, o, c, rfl, hc, hok, hlen, fun i e he => ⟨(List.range e.length).map (u i), ⟨by simp, fun j d hj => ?_⟩, fun j v hv => ?_⟩⟩
  ·have hl : j < e.length := (List.getElem?_eq_some_iff.1 hj).1
   exact ⟨u i j, by simp [hl], hone i j e d he hj, hrep i j e d he hj⟩
  ·have hl : j < e.length := by
    have := (List.getElem?_eq_some_iff.1 hv).1
    simpa using this
   simp [hl] at hv
   subst hv
   have := hcell i j e _ he (List.getElem?_eq_getElem hl)
   rwa [show o + (i * sz + j) = o + i * sz + j by omega] at this
theorem lst_inv {ok : Nat → Prop} {sz : Nat} {es : List (List D)} {v : Value} (h : RepC fm ok w v (.lst sz es)) :
  (es = [] ∧ ∃ (A : Addr) (c : Nat), v = .slice (some A) 0 c) ∨ (∃ (b o c : Nat) (u : Nat → Nat → Value), v = .slice (some ⟨b, o, none⟩) es.length c ∧ es.length ≤ c ∧ ok b ∧ (∀ e ∈ es, e.length = sz) ∧
   (∀ (i j : Nat) (e : List D) (d : D), es[i]? = some e → e[j]? = some d → w.cell? ⟨b, o + (i * sz + j), none⟩ = some (u i j)) ∧
   (∀ (i j : Nat) (e : List D) (d : D), es[i]? = some e → e[j]? = some d → (u i j).oneCell' = true) ∧
   (∀ (i j : Nat) (e : List D) (d : D), es[i]? = some e → e[j]? = some d → RepC fm ok w (u i j) d)) := by
 cases h with
 | lst0 _ A c => exact .inl ⟨rfl, A, c, rfl⟩
 | lst1 _ _ b o c u hc hok hlen hcell hone hrep => exact .inr ⟨b, o, c, u, rfl, hc, hok, hlen, hcell, hone, hrep⟩
theorem lst_part {ok : Nat → Prop} {sz : Nat} {es : List (List D)} {b o c : Nat} (h : RepC fm ok w (.slice (some ⟨b, o, none⟩) es.length c) (.lst sz es)) (l n : Nat) (hn : l + n ≤ es.length) (c' : Nat) (hc' : n ≤ c') :
  RepC fm ok w (.slice (some ⟨b, o + l * sz, none⟩) n c') (.lst sz ((es.drop l).take n)) := by
 have hlen : ((es.drop l).take n).length = n := by simp; omega
 by_cases h0 : n = 0
 ·subst h0
  simp only [List.take_zero]
  exact .lst0 _ _ _
 ·have hval : Value.slice (some ⟨b, o + l * sz, none⟩) n c' = Value.slice (some ⟨b, o + l * sz, none⟩) ((es.drop l).take n).length c' := by rw [hlen]
  rw [hval]
  rcases lst_inv h with ⟨rfl, _⟩ | ⟨b', o', c2, u, hv, hc, hok, hl, hcell, hone, hrep⟩
  ·simp at hn; omega
  ·injection hv with hv1 hv2 hv3
   injection hv1 with hv1
   injection hv1 with hb ho _
   subst hb; subst ho
   have hget : ∀ (i : Nat) (e : List D), ((es.drop l).take n)[i]? = some e → es[l + i]? = some e := by
    intro i e he
    rw [List.getElem?_take] at he
    split at he
    ·rwa [List.getElem?_drop] at he
    ·cases he
   refine .lst1 sz _ b (o + l * sz) c' (fun i j => u (l + i) j) (by omega) hok (fun e he => hl e (List.mem_of_mem_drop (List.mem_of_mem_take he))) (fun i j e d he hd => ?_)
    (fun i j e d he hd => hone _ _ e d (hget i e he) hd) (fun i j e d he hd => hrep _ _ e d (hget i e he) hd)
   have := hcell _ j e d (hget i e he) hd
   rwa [show o + ((l + i) * sz + j) = o + l * sz + (i * sz + j) by rw [Nat.add_mul]; omega] at this
theorem op_convInt (hI : Inv fm B w G H) (hts : TsR (Rep fm G (okB B G H w) w) a.tmps ts) {s d : TypeId} {k : IntKind} {x : Operand} {px : PX} (ho : o.op = .convert s d x)
  (hs : (P.underlying s).isSome = true) (hd : P.underlying d = some (.int k)) (hx : TrX fm x px) (hrun : (opE call (PX.ev ts) r (.conv (.toInt k) px)).run H = some out) : OpOk P o a w (Post fm B w G H out) := by
 have hv := ev_rep hts hx
 simp only [opE] at hrun
 split at hrun
 ·rename_i k' n e1
  obtain rfl := run_quiet hrun
  rw [e1] at hv
  have vx := hv.inv_int
  obtain ⟨sd, hsd⟩ := Option.isSome_iff_exists.1 hs
  refine opOk_val (v := .int k (k.wrap n)) (w' := w) ?_ (post_quiet hI (.closed (.int _ _)))
  simp [execOp, ho, vx, convert, run_underlying hsd, run_underlying hd, Conv.intToInt]
 ·simp [Eff.run] at hrun
theorem bytes_vals : ∀ {es : List (List D)} {l : List UInt8}, bytesOf es = some l →
  ∃ ns : List Int, ns.length = es.length ∧ l = ns.map (fun n => UInt8.ofNat n.toNat) ∧ ∀ (i : Nat) (n : Int), ns[i]? = some n → es[i]? = some [D.int .u8 n]
 | [], l, h => by
  simp [bytesOf] at h
  exact ⟨[], rfl, by simp [← h], by simp⟩
 | e :: es, l, h => by
  match e, h with
  | [.int .u8 n], h =>
   simp only [bytesOf, Option.map_eq_some_iff] at h
   obtain ⟨l', hl', rfl⟩ := h
   obtain ⟨ns, h1, h2, h3⟩ := bytes_vals hl'
   refine ⟨n :: ns, by simp [h1], by simp [h2], fun i m hm => ?_⟩
   cases i with
   | zero => simp at hm ⊢; exact hm
   | succ i => simpa using h3 i m (by simpa using hm)
theorem conv_bytes {s d e : TypeId} (hs : P.underlying s = some (.slice e)) (he : P.underlying e = some (.int .u8)) (hd : P.underlying d = some .string) {b o c : Nat} {ns : List Int}
  (hc : ∀ i n, ns[i]? = some n → w.cell? ⟨b, o + i, none⟩ = some (.int .u8 n)) :
  (convert s d (.slice (some ⟨b, o, none⟩) ns.length c)).run P w = .ok (.string ⟨(ns.map fun n => UInt8.ofNat n.toNat).toArray⟩) w := by
 have hl := run_loadCells_list (P := P) w ⟨b, o, none⟩ (ns.map (Value.int .u8)) (fun j v hj => by
  rw [List.getElem?_map, Option.map_eq_some_iff] at hj
  obtain ⟨n, hn, rfl⟩ := hj
  rw [add_mk]
  exact hc j n hn)
 rw [List.length_map] at hl
 rw [run_convert_bytes_string w s d e _ ns.length c hs he hd, run_bytesToString w _ ns.length c ns hl, foldl_push_bytes]
 simp [ByteArray.empty, ByteArray.emptyWithCapacity]
 rfl
theorem op_convBS (hI : Inv fm B w G H) (hts : TsR (Rep fm G (okB B G H w) w) a.tmps ts) {s d e : TypeId} {x : Operand} {px : PX} (ho : o.op = .convert s d x)
  (hs : P.underlying s = some (.slice e)) (he : P.underlying e = some (.int .u8)) (hd : P.underlying d = some .string) (hx : TrX fm x px)
  (hrun : (opE call (PX.ev ts) r (.conv .bytesStr px)).run H = some out) : OpOk P o a w (Post fm B w G H out) := by
 have hv := ev_rep hts hx
 have fin : ∀ l : List UInt8, (convert s d (a.eval x)).run P w = .ok (.string ⟨l.toArray⟩) w → OpOk P o a w (Post fm B w G H ⟨.str l, [], []⟩) := fun l hl => by
  refine opOk_val (v := .string ⟨l.toArray⟩) (w' := w) ?_ (post_quiet hI (.closed (.str l)))
  simp only [execOp, ho, Sem.run_bind, hl, Result.andThen_ok, Sem.run_pure]
 have nilc : ∀ A c, (convert s d (.slice A 0 c)).run P w = .ok (.string ⟨([] : List UInt8).toArray⟩) w := by
  intro A c
  cases A with
  | none => exact run_convert_bytes_nil w s e hs he 0 c d hd
  | some A =>
   have hl := run_loadCells_list (P := P) w A [] (by simp)
   rw [run_convert_bytes_string w s d e _ 0 c hs he hd, run_bytesToString w _ 0 c [] (by simpa using hl)]
   rfl
 simp only [opE] at hrun
 split at hrun
 ·rename_i e1
  obtain rfl := run_quiet hrun
  rw [e1] at hv
  refine fin [] ?_
  rw [hv.inv_nil]
  exact nilc _ _
 ·rename_i sz es e1
  split at hrun
  ·rename_i h1
   subst h1
   obtain ⟨d', hd', rfl⟩ := run_quietO hrun
   simp only [Option.map_eq_some_iff] at hd'
   obtain ⟨l, hl, rfl⟩ := hd'
   rw [e1] at hv
   have hc := hv.inv_lst
   obtain ⟨ns, n1, rfl, n3⟩ := bytes_vals hl
   refine fin _ ?_
   rcases lst_range hc with ⟨rfl, A, c, hvv⟩ | ⟨b, o', c, hvv, _, _, hlen, hcells⟩
   ·obtain rfl : ns = [] := List.eq_nil_of_length_eq_zero n1
    rw [hvv]
    exact nilc _ _
   ·rw [hvv, ← n1]
    refine conv_bytes hs he hd (fun i n hn => ?_)
    obtain ⟨cs, k1, k2⟩ := hcells i _ (n3 i n hn)
    obtain ⟨u, u1, u2, u3⟩ := k1.2 0 _ rfl
    have := k2 0 u u1
    cases u3
    simpa using this
  ·simp [Eff.run] at hrun
 ·rename_i id off len e1
  obtain ⟨sz, es, lv, h1, h2⟩ := run_get hrun
  split at h2
  ·rename_i hh
   obtain ⟨rfl, hle⟩ := hh
   obtain ⟨d', hd', rfl⟩ := run_quietO h2
   simp only [Option.map_eq_some_iff] at hd'
   obtain ⟨l, hl, rfl⟩ := hd'
   rw [e1] at hv
   obtain ⟨b, cap, g1, g2, g3⟩ := hI.rows id 1 es lv h1
   obtain ⟨r1, A, hvv, r2⟩ := hv.inv_ref g1
   obtain ⟨ns, n1, rfl, n3⟩ := bytes_vals hl
   have hlen : ns.length = len := by rw [n1]; simp; omega
   refine fin _ ?_
   rw [hvv]
   by_cases h0 : len = 0
   ·subst h0
    obtain rfl : ns = [] := List.eq_nil_of_length_eq_zero hlen
    exact nilc _ _
   ·rcases r2 with rfl | r2
    ·rw [← hlen]
     obtain ⟨cs, c1, c2, c3, c4⟩ := g3.ranges hle
     refine conv_bytes hs he hd (fun i n hn => ?_)
     obtain ⟨u, u1, u2, u3⟩ := c4 i 0 _ _ (n3 i n hn) rfl
     have := c2 _ u u1
     rw [u3.inv_int] at this
     simpa using this
    ·have := g3.len; omega
  ·simp [Eff.run] at h2
 ·simp [Eff.run] at hrun
theorem op_convSB (hI : Inv fm B w G H) (hts : TsR (Rep fm G (okB B G H w) w) a.tmps ts) {s d e : TypeId} {x : Operand} {px : PX} (ho : o.op = .convert s d x)
  (hs : P.underlying s = some .string) (hd : P.underlying d = some (.slice e)) (he : P.underlying e = some (.int .u8)) (hx : TrX fm x px)
  (hrun : (opE call (PX.ev ts) r (.conv .strBytes px)).run H = some out) : OpOk P o a w (Post fm B w G H out) := by
 have hv := ev_rep hts hx
 simp only [opE] at hrun
 split at hrun
 ·rename_i l e1
  split at hrun
  ·rename_i hroom
   obtain rfl := run_quiet hrun
   rw [e1] at hv
   have vx := hv.inv_str
   have hsz : (⟨l.toArray⟩ : ByteArray).size = l.length := rfl
   have hr := run_bytes_of_string (P := P) w s d e ⟨l.toArray⟩ hs hd he
   rw [hsz] at hr
   generalize hcap : grownCap w l.length 0 e = cap at hr
   have hge : l.length ≤ cap := hcap ▸ grownCap_ge w l.length 0 e
   generalize hC : bytesRow ⟨l.toArray⟩ cap = C at hr
   have hcell : ∀ (i : Nat) (b : UInt8), l[i]? = some b → C[i]? = some (.int .u8 (b.toNat : Int)) := by
    intro i b hi
    have hil : i < l.length := (List.getElem?_eq_some_iff.1 hi).1
    rw [← hC]
    unfold bytesRow
    rw [Array.getElem?_append]
    rw [List.getElem?_eq_getElem hil] at hi
    injection hi with hi
    simp [hil, hi]
   have hblk : (w.drew.alloc (.cells C e (C.size, C.size + 1))).heap[w.heap.size]? = some (.cells C e (C.size, C.size + 1)) := heap_alloc_new w.drew _
   have hold : ∀ b, b < w.heap.size → (w.drew.alloc (.cells C e (C.size, C.size + 1))).heap[b]? = w.heap[b]? := fun b hb => heap_alloc_old w.drew _ b hb
   have hsize : (w.drew.alloc (.cells C e (C.size, C.size + 1))).heap.size = w.heap.size + 1 := by simp
   have ha : Adv B w G H (w.drew.alloc (.cells C e (C.size, C.size + 1))) G H := adv_mk (gle_refl _) (by omega) (fun b hb _ => hold b hb) (fun b h => .inl h)
   have hI' : Inv fm B (w.drew.alloc (.cells C e (C.size, C.size + 1))) G H := by
    refine inv_mk hI (by omega) rfl rfl rfl (fun b hb _ => hold b hb) (fun id sz es lv h => ?_) hI.fresh hI.dead hI.inj
    obtain ⟨b', cap', a1, a2, a3⟩ := hI.rows id sz es lv h
    exact ⟨b', cap', a1, a2, a3.mono (fun v d hv => ha.rep hv) (hold b' a3.lt)⟩
   refine opOk_val (v := .slice (some ⟨w.heap.size, 0, none⟩) l.length cap) (w' := w.drew.alloc (.cells C e (C.size, C.size + 1))) ?_ ⟨G, ha, hI', .closed ?_⟩
   ·simp only [execOp, ho, vx, Sem.run_bind, hr, Result.andThen_ok, Sem.run_pure]
   ·have hnl : ¬ Lv G H w.heap.size := by
     rintro ⟨id, sz, es, cap', sz', h1, h2⟩
     have := hI.blk_lt ⟨_, _, _, h1⟩ h2
     omega
    have hlen : (ofBytes l).length = l.length := by simp [ofBytes]
    rw [show Value.slice (some ⟨w.heap.size, 0, none⟩) l.length cap = Value.slice (some ⟨w.heap.size, 0, none⟩) (ofBytes l).length cap by rw [hlen]]
    have hget : ∀ (i j : Nat) (e' : List D) (d' : D), (ofBytes l)[i]? = some e' → e'[j]? = some d' → ∃ b, l[i]? = some b ∧ j = 0 ∧ d' = .int .u8 (b.toNat : Int) := by
     intro i j e' d' h1 h2
     simp only [ofBytes, List.getElem?_map, Option.map_eq_some_iff] at h1
     obtain ⟨b, hb, rfl⟩ := h1
     cases j with
     | zero => simp at h2; exact ⟨b, hb, rfl, h2.symm⟩
     | succ j => simp at h2
    refine .lst1 1 _ w.heap.size 0 cap (fun i _ => .int .u8 ((l.getD i 0).toNat : Int)) (by omega) ⟨.inr (.inr hI.size), hnl, by omega⟩ (fun e' he' => ?_) (fun i j e' d' h1 h2 => ?_) (fun i j e' d' h1 h2 => rfl) (fun i j e' d' h1 h2 => ?_)
    ·simp only [ofBytes, List.mem_map] at he'
     obtain ⟨b, _, rfl⟩ := he'
     rfl
    ·obtain ⟨b, hb, rfl, rfl⟩ := hget i j e' d' h1 h2
     rw [cell_of_row _ w.heap.size _ C e _ hblk]
     simp only [Nat.zero_add, Nat.mul_one, Nat.add_zero]
     rw [hcell i b hb]
     simp [List.getD_eq_getElem?_getD, hb]
    ·obtain ⟨b, hb, rfl, rfl⟩ := hget i j e' d' h1 h2
     simp only [List.getD_eq_getElem?_getD, hb, Option.getD_some]
     exact .int _ _
  ·simp [Eff.run] at hrun
 ·simp [Eff.run] at hrun
end
end Go.Pi
