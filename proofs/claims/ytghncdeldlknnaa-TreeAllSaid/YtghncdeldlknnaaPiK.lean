import Derived.Test.YtghncdeldlknnaaPiJ
/-
  THE SAME: append; two structs, or arrays, held against each other; the lesser and the greater.
-/
set_option linter.all false
namespace Go.Pi
set_option linter.unusedVariables false
section
variable {P : Program} {fm : Nat → Nat} {B : Base} {w : World} {G : Gh} {H : Heap} {o : Oper} {a : Act} {ts : List D} {call : CallF} {r : Nat} {out : Out}

/-- Rows of cells, in a list. -/
structure LS (rep : Value → D → Prop) (sz : Nat) (c : List Value) (es : List (List D)) : Prop where
  size : c.length = es.length * sz
  each : ∀ e ∈ es, e.length = sz
  one : ∀ v ∈ c, v.oneCell' = true
  cell : ∀ (i j : Nat) (e : List D) (d : D), es[i]? = some e → e[j]? = some d → ∃ u, c[i * sz + j]? = some u ∧ u.oneCell' = true ∧ rep u d

theorem LS.append {rep : Value → D → Prop} {sz : Nat} {c c' : List Value} {es es' : List (List D)} (h : LS rep sz c es) (h' : LS rep sz c' es') : LS rep sz (c ++ c') (es ++ es') := by
  refine ⟨by simp [h.size, h'.size, Nat.add_mul], fun e he => ?_, fun v hv => ?_, fun i j e d he hd => ?_⟩
  · rcases List.mem_append.1 he with he | he
    · exact h.each e he
    · exact h'.each e he
  · rcases List.mem_append.1 hv with hv | hv
    · exact h.one v hv
    · exact h'.one v hv
  · rw [List.getElem?_append] at he
    split at he
    · rename_i hi
      obtain ⟨u, a1, a2, a3⟩ := h.cell i j e d he hd
      have hj : j < sz := by rw [← h.each e (List.mem_of_getElem? he)]; exact (List.getElem?_eq_some_iff.1 hd).1
      have hb : i * sz + j < c.length := by
        rw [h.size]
        have : (i + 1) * sz ≤ es.length * sz := Nat.mul_le_mul_right _ (by omega)
        rw [Nat.succ_mul] at this
        omega
      exact ⟨u, by rw [List.getElem?_append_left hb]; exact a1, a2, a3⟩
    · rename_i hi
      obtain ⟨u, a1, a2, a3⟩ := h'.cell _ j e d he hd
      obtain ⟨k, rfl⟩ : ∃ k, i = es.length + k := ⟨i - es.length, by omega⟩
      rw [show es.length + k - es.length = k by omega] at a1
      refine ⟨u, ?_, a2, a3⟩
      rw [List.getElem?_append_right (by rw [h.size, Nat.add_mul]; omega), h.size, Nat.add_mul, show es.length * sz + k * sz + j - es.length * sz = k * sz + j by omega]
      exact a1

theorem LS.mono {rep rep' : Value → D → Prop} (hr : ∀ v d, rep v d → rep' v d) {sz : Nat} {c : List Value} {es : List (List D)} (h : LS rep sz c es) : LS rep' sz c es :=
  ⟨h.size, h.each, h.one, fun i j e d he hd => let ⟨u, a1, a2, a3⟩ := h.cell i j e d he hd; ⟨u, a1, a2, hr _ _ a3⟩⟩

/-- What is appended. -/
theorem source_ok (hI : Inv fm B w G H) {sz : Nat} {v : Value} {d : D} (hv : Rep fm G (okB B G H w) w v d) {tx : TypeId} (hk : (∃ e', P.underlying tx = some (.slice e')) ∨ P.underlying tx = some .string)
    {src : List (List D)} (h : (source sz d).run H = some src) : ∃ news, Src P sz tx v src.length news w ∧ LS (Rep fm G (okB B G H w) w) sz news src := by
  have mkS : ∀ (A : Addr) (c : Nat) (news : List Value), LS (Rep fm G (okB B G H w) w) sz news src → (∀ j u, news[j]? = some u → w.cell? (A.add j) = some u) → Src P sz tx (.slice (some A) src.length c) src.length news w := by
    intro A c news hl hc
    exact ⟨hk, fun _ => rfl, run_firstCells_some w sz _ A _ c news hl.size hc, run_firstCells_some w.drew sz _ A _ c news hl.size (by simpa using hc), hl.size, hl.one⟩
  have mkN : ∀ (c : Nat), Src P sz tx (.slice none 0 c) 0 [] w := fun c =>
    ⟨hk, fun _ => rfl, run_firstCells_none w sz 0 0 c, run_firstCells_none w.drew sz 0 0 c, by simp, fun _ h => by cases h⟩
  have ls0 : LS (Rep fm G (okB B G H w) w) sz [] [] := ⟨by simp, by simp, by simp, by simp⟩
  have mkE : ∀ (A : Option Addr) (c : Nat), src = [] → ∃ news, Src P sz tx (.slice A 0 c) src.length news w ∧ LS (Rep fm G (okB B G H w) w) sz news src := by
    rintro A c rfl
    cases A with
    | none => exact ⟨[], mkN c, ls0⟩
    | some A => exact ⟨[], mkS A c [] ls0 (by simp), ls0⟩
  cases d <;> simp only [source, Eff.run, reduceCtorEq] at h
  case nil =>
    injection h with h
    subst h
    rw [hv.inv_nil]
    exact mkE none 0 rfl
  case lst s es =>
    split at h
    · rename_i hs
      simp only [Eff.run, Option.some.injEq] at h
      subst h
      have hc := hv.inv_lst
      rcases lst_inv hc with ⟨rfl, A, c, rfl⟩ | ⟨b, o', c, u, rfl, hlc, hok, hl, hcell, hone, hrep⟩
      · exact mkE A c rfl
      · by_cases he : es = []
        · subst he; exact mkE _ _ rfl
        · have hss : s = sz := by
            rcases hs with hs | hs
            · exact hs
            · exact absurd (by simpa using hs) he
          subst hss
          have hpos : ∀ k, k < es.length * s → k / s < es.length ∧ k % s < s := fun k hk => by
            have h0 : 0 < s := by
              rcases Nat.eq_zero_or_pos s with h | h
              · subst h; simp at hk
              · exact h
            exact ⟨(Nat.div_lt_iff_lt_mul h0).2 hk, Nat.mod_lt _ h0⟩
          have hget : ∀ k, k < es.length * s → ∃ (e : List D) (d : D), es[k / s]? = some e ∧ e[k % s]? = some d := fun k hk => by
            obtain ⟨h1, h2⟩ := hpos k hk
            have hle : es[k / s].length = s := hl _ (List.getElem_mem h1)
            exact ⟨es[k / s], es[k / s][k % s]'(by omega), List.getElem?_eq_getElem h1, List.getElem?_eq_getElem _⟩
          have hls : LS (Rep fm G (okB B G H w) w) s ((List.range (es.length * s)).map fun k => u (k / s) (k % s)) es := by
            refine ⟨by simp, hl, fun v hv => ?_, fun i j e d he hd => ?_⟩
            · simp only [List.mem_map, List.mem_range] at hv
              obtain ⟨k, hk, rfl⟩ := hv
              obtain ⟨e, d, h1, h2⟩ := hget k hk
              exact hone _ _ e d h1 h2
            · have hj : j < s := by rw [← hl e (List.mem_of_getElem? he)]; exact (List.getElem?_eq_some_iff.1 hd).1
              have hi : i < es.length := (List.getElem?_eq_some_iff.1 he).1
              have hb : i * s + j < es.length * s := by
                have : (i + 1) * s ≤ es.length * s := Nat.mul_le_mul_right _ (by omega)
                rw [Nat.succ_mul] at this
                omega
              have e1 : (i * s + j) / s = i := by rw [Nat.mul_comm, Nat.mul_add_div (by omega), Nat.div_eq_of_lt hj]; rfl
              have e2 : (i * s + j) % s = j := by rw [Nat.mul_comm, Nat.mul_add_mod, Nat.mod_eq_of_lt hj]
              exact ⟨u i j, by simp [hb, e1, e2], hone i j e d he hd, .closed (hrep i j e d he hd)⟩
          refine ⟨_, mkS _ c _ hls (fun j v hj => ?_), hls⟩
          have hjl : j < es.length * s := by
            have := (List.getElem?_eq_some_iff.1 hj).1
            simpa using this
          simp [hjl] at hj
          subst hj
          obtain ⟨e, d, h1, h2⟩ := hget j hjl
          rw [add_mk]
          have := hcell _ _ e d h1 h2
          rwa [Nat.div_add_mod' j s] at this
    · simp [Eff.run] at h
  case ref id off len =>
    split at h
    · rename_i s es lv g1
      split at h
      · rename_i hs
        obtain ⟨rfl, hle⟩ := hs
        simp only [Eff.run, Option.some.injEq] at h
        subst h
        obtain ⟨b, cap, k1, k2, k3⟩ := hI.rows id s es lv g1
        obtain ⟨r1, A, rfl, r2⟩ := hv.inv_ref k1
        obtain ⟨cs, c1, c2, c3, c4⟩ := k3.ranges hle
        have hlen : ((es.drop off).take len).length = len := by simp; omega
        by_cases h0 : len = 0
        · subst h0
          have := mkE (some A) (cap - off) (by simp)
          exact this
        · have hA : A = ⟨b, off * s, none⟩ := by
            rcases r2 with h | h
            · exact h
            · have := k3.len; omega
          subst hA
          have hls : LS (Rep fm G (okB B G H w) w) s cs ((es.drop off).take len) :=
            ⟨by rw [hlen]; exact c1, fun e he => k3.each e (List.mem_of_mem_drop (List.mem_of_mem_take he)), c3, c4⟩
          have := mkS ⟨b, off * s, none⟩ (cap - off) cs hls (fun j v hj => by rw [add_mk]; exact c2 j v hj)
          rw [hlen] at this ⊢
          exact ⟨cs, this, hls⟩
      · simp [Eff.run] at h
    · cases h
  case str s =>
    split at h
    · rename_i hs
      subst hs
      simp only [Eff.run, Option.some.injEq] at h
      subst h
      rw [hv.inv_str]
      have hlen : (ofBytes s).length = s.length := by simp [ofBytes]
      have hbc : byteCells ⟨s.toArray⟩ = s.map fun b => Value.int .u8 (b.toNat : Int) := by simp [byteCells]
      refine ⟨byteCells ⟨s.toArray⟩, ?_, ?_⟩
      · have hsz : (⟨s.toArray⟩ : ByteArray).size = s.length := rfl
        have hf := fun w' => firstCells_string (P := P) ⟨s.toArray⟩ w'
        rw [hlen]
        rw [hsz] at hf
        exact ⟨hk, fun _ => rfl, hf w, hf w.drew, by rw [byteCells_length, Nat.mul_one]; rfl, fun u hu => by
          rw [hbc] at hu
          obtain ⟨_, _, rfl⟩ := List.mem_map.1 hu
          rfl⟩
      · refine ⟨by rw [hbc]; simp [ofBytes], fun e he => ?_, fun v hv => ?_, fun i j e d he hd => ?_⟩
        · simp only [ofBytes, List.mem_map] at he
          obtain ⟨b, _, rfl⟩ := he
          rfl
        · rw [hbc] at hv
          obtain ⟨_, _, rfl⟩ := List.mem_map.1 hv
          rfl
        · simp only [ofBytes, List.getElem?_map, Option.map_eq_some_iff] at he
          obtain ⟨b, hb, rfl⟩ := he
          cases j with
          | zero =>
            simp at hd
            subst hd
            exact ⟨_, by rw [hbc]; simp [hb], rfl, .closed (.int _ _)⟩
          | succ j => simp at hd
    · simp [Eff.run] at h

theorem zeroCells_size (z : Array Value) (n : Nat) : (Builtin.zeroCells z n).size = n * z.size := by simp [Builtin.zeroCells]

/-- A list of rows of cells and zeros behind, as a block has them. -/
theorem LS.block {rep : Value → D → Prop} {sz : Nat} {c : List Value} {es : List (List D)} (h : LS rep sz c es) (zs : Array Value) {cap : Nat} (hz : zs.size = (cap - es.length) * sz) (hle : es.length ≤ cap) :
    (c.toArray ++ zs).size = cap * sz ∧ ∀ (i j : Nat) (e : List D) (d : D), es[i]? = some e → e[j]? = some d → ∃ u, (c.toArray ++ zs)[i * sz + j]? = some u ∧ u.oneCell' = true ∧ rep u d := by
  refine ⟨?_, fun i j e d he hd => ?_⟩
  · rw [Array.size_append, hz, List.size_toArray, h.size, ← Nat.add_mul]
    congr 1; omega
  · obtain ⟨u, a1, a2, a3⟩ := h.cell i j e d he hd
    refine ⟨u, ?_, a2, a3⟩
    have hl : i * sz + j < c.length := (List.getElem?_eq_some_iff.1 a1).1
    rw [Array.getElem?_append_left (by simpa using hl)]
    simpa using a1

theorem take_LS (hI : Inv fm B w G H) {s : Nat} {es : List (List D)} {b cap : Nat} (k3 : RowOk (Rep fm G (okB B G H w) w) w s es b cap) {len : Nat} (hle : len ≤ es.length) :
    ∃ cs, LS (Rep fm G (okB B G H w) w) s cs (es.take len) ∧ w.rangeAt b 0 cs ∧ cs.length = len * s := by
  obtain ⟨cs, c1, c2, c3, c4⟩ := k3.ranges (off := 0) (len := len) (by omega)
  refine ⟨cs, ⟨by rw [c1, List.length_take, Nat.min_eq_left hle], fun e he => k3.each e (List.mem_of_mem_take he), c3, fun i j e d he hd => c4 i j e d (by simpa using he) hd⟩, by simpa using c2, c1⟩

theorem op_append (hI : Inv fm B w G H) (hts : TsR (Rep fm G (okB B G H w) w) a.tmps ts) {t u e : TypeId} {i : TypeInfo} {z : Value} {sz bytes : Nat} {x y : Operand} {px py : PX}
    (ho : o.op = .call { callee := .builtin .append, args := #[x, y], argTypes := #[t, u] }) (hu : P.underlying t = some (.slice e)) (hv : (∃ e', P.underlying u = some (.slice e')) ∨ P.underlying u = some .string)
    (hi : P.info? e = some i) (hz : i.zero = some z) (hsz : i.size = sz) (hzl : z.cells.size = sz) (hby : i.bytes = bytes) (h0 : 0 < sz) (hx : TrX fm x px) (hy : TrX fm y py)
    (hrun : (opE call (PX.ev ts) r (.append sz bytes px py)).run H = some out) : OpOk P o a w (Post fm B w G H out) := by
  have hvx := ev_rep hts hx
  have hvy := ev_rep hts hy
  obtain ⟨src, h1, h2⟩ := run_bind' (by exact hrun)
  obtain ⟨news, hS, hL⟩ := source_ok (P := P) hI hvy hv h1
  have fin : ∀ v w', (Builtin.append_ #[t, u] o.type #[a.eval x, a.eval y]).run P w = .ok v w' → Post fm B w G H out v w' → OpOk P o a w (Post fm B w G H out) := by
    intro v w' hr hp
    refine opOk_val (v := v) (w' := w') ?_ hp
    simp only [execOp, ho, resolve, Sem.run_bind, Sem.run_pure, Result.andThen_ok, invoke, builtin, List.map_toArray, List.map_cons, List.map_nil, hr]
  by_cases hemp : src.isEmpty
  · rw [if_pos hemp] at h2
    have hs0 : src = [] := by simpa using hemp
    subst hs0
    have hn0 : news = [] := List.eq_nil_of_length_eq_zero (by simpa using hL.size)
    subst hn0
    have nothing : ∀ (A : Option Addr) (l c : Nat), a.eval x = .slice A l c → l ≤ c → (Builtin.append_ #[t, u] o.type #[a.eval x, a.eval y]).run P w = .ok (.slice A l c) w := by
      intro A l c he hl
      have hc : (Builtin.firstCells i.size 0 (a.eval y)).run P w = .ok #[] w := by rw [hsz]; exact hS.cells
      have hlen : (Builtin.lenOf (a.eval y)).run P w = .ok 0 w := hS.len w
      rw [he]
      rcases hv with ⟨e', hk⟩ | hk <;> cases A <;> simp [Builtin.append_, run_underlying hu, run_underlying hk, sizeOf, typeInfo, hi, hlen, hl, hc, storeCells]
    split at h2
    · rename_i e1
      obtain rfl := run_quiet h2
      rw [e1] at hvx
      exact fin _ _ (nothing _ _ _ hvx.inv_nil (Nat.le_refl _)) (post_quiet hI (.closed .nil))
    · rename_i id off len e1
      obtain rfl := run_quiet h2
      rw [e1] at hvx
      obtain ⟨b, cap, s, hg⟩ := GS.ne_fresh hvx.ref_fresh
      obtain ⟨r1, A, vx, _⟩ := hvx.inv_ref hg
      exact fin _ _ (nothing _ _ _ vx (by omega)) (post_quiet hI (by rw [← vx]; exact hvx))
    · rename_i s es e1
      obtain rfl := run_quiet h2
      rw [e1] at hvx
      rcases lst_range hvx.inv_lst with ⟨rfl, A, c, vx⟩ | ⟨b, o', c, vx, hlc, _⟩
      · exact fin _ _ (nothing _ _ _ vx (Nat.zero_le _)) (post_quiet hI (by rw [← vx]; exact hvx))
      · exact fin _ _ (nothing _ _ _ vx hlc) (post_quiet hI (by rw [← vx]; exact hvx))
    · simp [Eff.run] at h2
  · rw [if_neg hemp] at h2
    have hpos : 0 < src.length := by
      cases src with
      | nil => simp at hemp
      | cons => simp
    have hroom : roomy = 1099511627776 := rfl
    have hml : maxLen = 9223372036854775807 := rfl
    split at h2
    · rename_i e1
      split at h2
      · rename_i hc
        obtain ⟨g1, g2⟩ := hc
        obtain ⟨f1, f2, f3⟩ := run_new h2
        simp only [Eff.run, Option.some.injEq] at f3
        subst f3
        rw [e1] at hvx
        have hold := run_firstCells_none (P := P) w.drew i.size 0 0 0
        have hr := run_append_grow_src (P := P) w t u o.type e i z hu hi hz none 0 0 [] hold (a.eval y) src.length news (by rw [hsz]; exact hS) (by omega) (by omega)
          (by rw [Nat.zero_add, nextslicecap_zero hpos, hby]; omega)
        simp only [Nat.zero_add, List.nil_append] at hr
        have hge := grownCap_ge w src.length 0 e
        have hcm := grownCap_le_maxLen w src.length 0 e (by rw [hml]; omega)
        obtain ⟨b1, b2⟩ := hL.block (Builtin.zeroCells z.cells (grownCap w src.length 0 e - src.length)) (by rw [zeroCells_size, hzl]) hge
        obtain ⟨ha, hI'⟩ := inv_new hI f1 f2 (NewBlk.drew_alloc w _ e) b1 hge hcm hL.each b2
        refine fin _ _ (by rw [hvx.inv_nil]; exact hr) ⟨_, ha, hI', rep_ref_new _ _ _ _ hge⟩
      · simp [Eff.run] at h2
    · rename_i id off len e1
      obtain ⟨⟨s', es', l1⟩, l2⟩ := run_live h2
      obtain ⟨s, es, lv, g1, g2⟩ := run_get l2
      rw [l1] at g1
      injection g1 with q1 q2 q3
      subst q1; subst q2; subst q3
      split at g2
      · rename_i hc
        obtain ⟨rfl, rfl, c1, c2, c3⟩ := hc
        obtain ⟨f1, f2, f3⟩ := run_new g2
        simp only [Eff.run, Option.some.injEq] at f3
        subst f3
        rw [e1] at hvx
        obtain ⟨b, cap, k1, k2, k3⟩ := hI.rows id s' es' true l1
        obtain ⟨r1, A, vx, r2⟩ := hvx.inv_ref k1
        obtain ⟨cs, t1, t2, t3⟩ := take_LS hI k3 c1
        have hLL := t1.append hL
        have hlen : (es'.take len ++ src).length = len + src.length := by simp; omega
        simp only [Nat.sub_zero, Nat.zero_mul] at vx r2
        by_cases hfit : len + src.length ≤ cap
        · have hA : A = ⟨b, 0, none⟩ := by
            rcases r2 with h | h
            · exact h
            · omega
          subst hA
          obtain ⟨⟨c, T, m1, m2, m3⟩, m4, m5, m6⟩ := k3
          have hfits : len * s' + news.length ≤ c.size := by
            rw [hL.size, m2, ← Nat.add_mul]
            exact Nat.mul_le_mul_right _ hfit
          have hst := run_storeCells_at P b (len * s') T news 0 c w m1 (by simpa using hfits) hL.one
          simp only [Nat.add_zero] at hst
          have hr : (Builtin.append_ #[t, u] o.type #[a.eval x, a.eval y]).run P w = .ok (.slice (some ⟨b, 0, none⟩) (len + src.length) cap) (w.setRow b (c.toList.take (len * s') ++ news ++ c.toList.drop (len * s' + news.length)).toArray) := by
            have hcc := hS.cells
            have hlen' := hS.len w
            have hadd : (⟨b, 0, none⟩ : Addr).add (len * s') = ⟨b, len * s', none⟩ := by rw [add_mk]; simp
            rw [vx]
            rcases hv with ⟨e', hk⟩ | hk <;> simp [Builtin.append_, run_underlying hu, run_underlying hk, sizeOf, typeInfo, hi, hlen', hfit, hcc, hsz, hadd, hst]
          have hcs : cs = c.toList.take (len * s') := by
            apply List.ext_getElem?
            intro j
            by_cases hj : j < len * s'
            · rw [List.getElem?_take, if_pos hj]
              have hjc : j < cs.length := by omega
              have := t2 j _ (List.getElem?_eq_getElem hjc)
              rw [cell_of_row w b (0 + j) c T (0, 0) m1] at this
              rw [List.getElem?_eq_getElem hjc, ← this]
              simp
            · rw [List.getElem?_eq_none (by omega), List.getElem?_eq_none (by simp; omega)]
          obtain ⟨ha, hI'⟩ := inv_append (w' := w.setRow b (c.toList.take (len * s') ++ news ++ c.toList.drop (len * s' + news.length)).toArray) (b' := b) (cap' := cap) (es' := es'.take len ++ src)
            hI l1 k1 f1 f2 (by rw [size_setRow]; exact Nat.le_refl _) rfl rfl rfl (fun k _ hk => setRow_other w b k _ hk) (.inl rfl) ⟨⟨_, T, setRow_heap w b c _ T (0, 0) m1, by
              simp only [List.size_toArray, List.length_append, List.length_take, List.length_drop, Array.length_toList]
              omega, fun i j e d he hd => by
              obtain ⟨u', a1, a2, a3⟩ := hLL.cell i j e d he hd
              refine ⟨u', ?_, a2, a3⟩
              rw [hcs] at a1
              rw [List.getElem?_toArray, List.getElem?_append_left (by exact (List.getElem?_eq_some_iff.1 a1).1)]
              exact a1⟩, by rw [hlen]; exact hfit, m5, hLL.each⟩
          exact fin _ _ hr ⟨_, ha, hI', rep_ref_new _ _ _ _ hfit⟩
        · have hold : (Builtin.firstCells i.size len (.slice (some A) len cap)).run P w.drew = .ok cs.toArray w.drew := by
            refine run_firstCells_some w.drew i.size len A len cap cs (by rw [hsz]; exact t3) (fun j v hj => ?_)
            have hA : A = ⟨b, 0, none⟩ ∨ cs = [] := by
              rcases r2 with h | h
              · exact .inl h
              · right
                apply List.eq_nil_of_length_eq_zero
                rw [t3, show len = 0 by omega]; simp
            rcases hA with rfl | rfl
            · rw [add_mk, World.cell?_drew]; exact t2 j v hj
            · simp at hj
          have hr := run_append_grow_src (P := P) w t u o.type e i z hu hi hz (some A) len cap cs hold (a.eval y) src.length news (by rw [hsz]; exact hS) (by omega) (by omega)
            (growslice_fits (by omega) (by rw [hby]; omega))
          have hge := grownCap_ge w (len + src.length) cap e
          have hcm := grownCap_le_maxLen w (len + src.length) cap e (by rw [hml]; omega)
          obtain ⟨b1, b2⟩ := hLL.block (Builtin.zeroCells z.cells (grownCap w (len + src.length) cap e - (len + src.length))) (cap := grownCap w (len + src.length) cap e) (by rw [zeroCells_size, hzl, hlen]) (by rw [hlen]; exact hge)
          have hn := NewBlk.drew_alloc w ((cs ++ news).toArray ++ Builtin.zeroCells z.cells (grownCap w (len + src.length) cap e - (len + src.length))) e
          obtain ⟨ha, hI'⟩ := inv_append (b' := w.heap.size) (cap' := grownCap w (len + src.length) cap e) (es' := es'.take len ++ src) hI l1 k1 f1 f2 (by rw [hn.size]; omega) hn.os hn.tape hn.output (fun k hk _ => hn.old k hk) (.inr (Nat.le_refl _))
            ⟨⟨_, e, hn.new, b1, b2⟩, by rw [hlen]; exact hge, hcm, hLL.each⟩
          exact fin _ _ (by rw [vx]; exact hr) ⟨_, ha, hI', rep_ref_new _ _ _ _ hge⟩
      · simp [Eff.run] at g2
    · simp [Eff.run] at h2
end
end Go.Pi
