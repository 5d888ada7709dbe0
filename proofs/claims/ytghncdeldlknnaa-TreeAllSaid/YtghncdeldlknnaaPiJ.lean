import Derived.Test.YtghncdeldlknnaaPiI
/-
  THE SAME: slices, addresses, parts, lengths.
-/
set_option linter.all false
namespace Go.Pi
set_option linter.unusedVariables false
section
variable {P : Program} {fm : Nat → Nat} {B : Base} {w : World} {G : Gh} {H : Heap} {o : Oper} {a : Act} {ts : List D} {call : CallF} {r : Nat} {out : Out}

theorem rangeAt_drop {b o : Nat} {cs : List Value} (h : w.rangeAt b o cs) (j : Nat) : w.rangeAt b (o + j) (cs.drop j) := by
  intro k v hv
  rw [List.getElem?_drop] at hv
  have := h (j + k) v hv
  rwa [show o + (j + k) = o + j + k by omega] at this

theorem cut_ok {rep : Value → D → Prop} (hint : ∀ {v : Value} {k : IntKind} {n : Int}, rep v (D.int k n) → v = Value.int k n) {len cap : Nat} (hc : len ≤ cap) {lo hi : Option Operand} {plo phi : Option PX}
    (hlo : TrO fm lo plo) (hhi : TrO fm hi phi) (hev : ∀ {x : Operand} {px : PX}, TrX fm x px → rep (a.eval x) (px.ev ts)) {p : Nat × Nat} (h : cut len (plo.map (PX.ev ts)) (phi.map (PX.ev ts)) = some p) (isSlice : Bool) :
    p.1 ≤ p.2 ∧ p.2 ≤ len ∧ ∃ m, m = (if isSlice then cap else cap) ∧ (Instr.sliceBounds isSlice len cap (lo.map a.eval) (hi.map a.eval) none).run P w = .ok (p.1, p.2, cap) w := by
  unfold cut at h
  have key : ∃ hh : Nat, hh ≤ len ∧ (match hi.map a.eval with
      | some v => Instr.sliceBound v cap (if isSlice then .sliceAcap else .sliceAlen)
      | none => pure len : Sem Nat).run P w = .ok hh w ∧ (match plo.map (PX.ev ts) with
        | none => some (0, hh)
        | some (.int _ n) => if 0 ≤ n ∧ n ≤ hh then some (n.toNat, hh) else none
        | _ => none) = some p := by
    cases hhi with
    | none =>
      simp only [Option.map_none, Option.bind_some] at h
      exact ⟨len, Nat.le_refl _, rfl, h⟩
    | some hx =>
      rename_i x px
      have hv := hev hx
      simp only [Option.map_some] at h ⊢
      cases e : px.ev ts <;> rw [e] at h hv <;> simp only [Option.bind_none, reduceCtorEq] at h
      rename_i k n
      split at h
      · rename_i hn
        simp only [Option.bind_some] at h
        rw [hint hv]
        exact ⟨n.toNat, by omega, run_sliceBound w k n cap _ hn.1 (by omega), h⟩
      · cases h
  obtain ⟨hh, h1, h2, h3⟩ := key
  have key2 : p.2 = hh ∧ p.1 ≤ hh ∧ (match lo.map a.eval with
      | some v => Instr.sliceBound v hh (if (none : Option Value).isSome then .slice3C else .sliceB)
      | none => pure 0 : Sem Nat).run P w = .ok p.1 w := by
    cases hlo with
    | none =>
      simp only [Option.map_none, Option.some.injEq] at h3 ⊢
      subst h3
      exact ⟨rfl, Nat.zero_le _, rfl⟩
    | some hx =>
      rename_i x px
      have hv := hev hx
      simp only [Option.map_some] at h3 ⊢
      cases e : px.ev ts <;> rw [e] at h3 hv <;> simp only [reduceCtorEq] at h3
      rename_i k n
      split at h3
      · rename_i hn
        injection h3 with h3
        subst h3
        rw [hint hv]
        exact ⟨rfl, by show n.toNat ≤ hh; omega, run_sliceBound w k n hh _ hn.1 (by omega)⟩
      · cases h3
  obtain ⟨g1, g2, g3⟩ := key2
  refine ⟨by omega, by omega, cap, by simp, ?_⟩
  cases hhm : Option.map a.eval hi <;> cases hlm : Option.map a.eval lo <;> rw [hhm] at h2 <;> rw [hlm] at g3 <;>
    simp only [Sem.run_pure, Result.ok.injEq, and_true] at h2 g3 <;>
    simp only [Instr.sliceBounds, Sem.run_bind, Sem.run_pure, Result.andThen_ok, h2, g3, g1]

theorem op_slice (hI : Inv fm B w G H) (hts : TsR (Rep fm G (okB B G H w) w) a.tmps ts) {t e : TypeId} {i : TypeInfo} {sz : Nat} {x : Operand} {px : PX} {lo hi : Option Operand} {plo phi : Option PX}
    (ho : o.op = .slice t x lo hi none) (hu : P.underlying t = some (.slice e)) (hie : P.info? e = some i) (hsz : i.size = sz) (hx : TrX fm x px) (hlo : TrO fm lo plo) (hhi : TrO fm hi phi)
    (hrun : (opE call (PX.ev ts) r (.slice sz px plo phi)).run H = some out) : OpOk P o a w (Post fm B w G H out) := by
  have hv := ev_rep hts hx
  have main : ∀ (A : Option Addr) (len cap : Nat) (p : Nat × Nat) (d : D), a.eval x = .slice A len cap → len ≤ cap → cut len (plo.map (PX.ev ts)) (phi.map (PX.ev ts)) = some p →
      (p.1 ≤ p.2 → p.2 ≤ len → Rep fm G (okB B G H w) w (sliced A p.1 p.2 cap sz) d) → OpOk P o a w (Post fm B w G H ⟨d, [], []⟩) := by
    intro A len cap p d he hc hcut hrep
    obtain ⟨h1, h2, m, _, h3⟩ := cut_ok (P := P) (w := w) (a := a) (ts := ts) (rep := Rep fm G (okB B G H w) w) (fun h => h.inv_int) hc hlo hhi (fun h => ev_rep hts h) hcut true
    have hel : P.elem t = e := by simp [Program.elem, hu]
    have hu' : P.underlying t = some (.slice (P.elem t)) := by rw [hel]; exact hu
    refine opOk_val (v := sliced A p.1 p.2 cap sz) (w' := w) ?_ (post_quiet hI (hrep h1 h2))
    simp only [execOp, ho, he, Option.map_none, Sem.run_bind, run_sliceAt_slice w t _ _ _ _ hu', run_slice_any w t A len cap hu', h3, Result.andThen_ok, hel]
    simp [sizeOf, typeInfo, hie, hsz]
  simp only [opE] at hrun
  split at hrun
  · rename_i e1
    obtain ⟨d, hd, rfl⟩ := run_quietO hrun
    simp only [Option.map_eq_some_iff] at hd
    obtain ⟨p, hp, rfl⟩ := hd
    rw [e1] at hv
    refine main none 0 0 p _ hv.inv_nil (Nat.le_refl _) hp (fun h1 h2 => .closed ?_)
    have hp1 : p.1 = 0 := by omega
    have hp2 : p.2 = 0 := by omega
    rw [hp1, hp2]
    exact .nil
  · rename_i s es e1
    split at hrun
    · rename_i hs
      subst hs
      obtain ⟨d, hd, rfl⟩ := run_quietO hrun
      simp only [Option.map_eq_some_iff] at hd
      obtain ⟨p, hp, rfl⟩ := hd
      rw [e1] at hv
      have hc := hv.inv_lst
      rcases lst_range hc with ⟨rfl, A, c, hvv⟩ | ⟨b, o', c, hvv, hlc, _, _, _⟩
      · refine main A 0 c p _ hvv (Nat.zero_le _) (by simpa using hp) (fun h1 h2 => .closed ?_)
        have hp1 : p.1 = 0 := by omega
        have hp2 : p.2 = 0 := by omega
        rw [hp1, hp2]
        simp only [List.drop_nil, List.take_nil]
        exact .lst0 _ _ _
      · refine main (some ⟨b, o', none⟩) es.length c p _ hvv hlc hp (fun h1 h2 => .closed ?_)
        rw [hvv] at hc
        unfold sliced
        by_cases hm : c = p.1
        · have : p.2 - p.1 = 0 := by omega
          rw [if_pos hm, this]
          simp only [List.take_zero]
          exact .lst0 _ _ _
        · rw [if_neg hm]
          simp only [Option.map_some, add_mk]
          exact lst_part hc p.1 (p.2 - p.1) (by omega) (c - p.1) (by omega)
    · simp [Eff.run] at hrun
  · rename_i id off len e1
    obtain ⟨s, es, lv, g1, g2⟩ := run_get hrun
    split at g2
    · rename_i hs
      subst hs
      obtain ⟨d, hd, rfl⟩ := run_quietO g2
      simp only [Option.map_eq_some_iff] at hd
      obtain ⟨p, hp, rfl⟩ := hd
      rw [e1] at hv
      obtain ⟨b, cap, k1, k2, k3⟩ := hI.rows id s es lv g1
      obtain ⟨r1, A, hvv, r2⟩ := hv.inv_ref k1
      refine main (some A) len (cap - off) p _ hvv (by omega) hp (fun h1 h2 => .ref id _ _ _ hv.ref_fresh ?_ rfl)
      intro b' cap' sz' hg
      rw [k1] at hg
      injection hg with q1 q2 q3
      subst q1; subst q2; subst q3
      refine ⟨by omega, (if cap - off = p.1 then A else A.add (p.1 * s)), ?_, ?_⟩
      · unfold sliced
        rw [show cap - (off + p.1) = cap - off - p.1 by omega]
        by_cases hm : cap - off = p.1
        · rw [if_pos hm, if_pos hm]
        · rw [if_neg hm, if_neg hm]; rfl
      · rcases r2 with rfl | r2
        · by_cases hm : cap - off = p.1
          · exact .inr (by omega)
          · rw [if_neg hm, add_mk]
            exact .inl (by rw [Nat.add_mul])
        · exact .inr (by omega)
    · simp [Eff.run] at g2
  · simp [Eff.run] at hrun

theorem op_sliceS (hI : Inv fm B w G H) (hts : TsR (Rep fm G (okB B G H w) w) a.tmps ts) {t : TypeId} {x : Operand} {px : PX} {lo hi : Option Operand} {plo phi : Option PX}
    (ho : o.op = .slice t x lo hi none) (hu : P.underlying t = some .string) (hx : TrX fm x px) (hlo : TrO fm lo plo) (hhi : TrO fm hi phi)
    (hrun : (opE call (PX.ev ts) r (.sliceS px plo phi)).run H = some out) : OpOk P o a w (Post fm B w G H out) := by
  have hv := ev_rep hts hx
  simp only [opE] at hrun
  split at hrun
  · rename_i s e1
    obtain ⟨d, hd, rfl⟩ := run_quietO hrun
    simp only [Option.map_eq_some_iff] at hd
    obtain ⟨p, hp, rfl⟩ := hd
    rw [e1] at hv
    have vx := hv.inv_str
    obtain ⟨h1, h2, m, _, h3⟩ := cut_ok (P := P) (w := w) (a := a) (ts := ts) (rep := Rep fm G (okB B G H w) w) (fun h => h.inv_int) (Nat.le_refl s.length) hlo hhi (fun h => ev_rep hts h) hp false
    have hex : (⟨s.toArray⟩ : ByteArray).extract p.1 p.2 = ⟨((s.drop p.1).take (p.2 - p.1)).toArray⟩ := by
      apply ByteArray.ext
      simp [ByteArray.data_extract]
    refine opOk_val (v := .string ⟨((s.drop p.1).take (p.2 - p.1)).toArray⟩) (w' := w) ?_ (post_quiet hI (.closed (.str _)))
    have hsz : (⟨s.toArray⟩ : ByteArray).size = s.length := rfl
    simp only [execOp, ho, vx, Option.map_none, Sem.run_bind, run_sliceAt_string w t _ _ _ _ hu, Instr.slice, run_underlying hu, Result.andThen_ok, hsz, h3, Option.isSome_none, Bool.false_eq_true, if_false, Sem.run_pure, hex]
  · simp [Eff.run] at hrun

theorem op_fieldAddr (hI : Inv fm B w G H) (hts : TsR (Rep fm G (okB B G H w) w) a.tmps ts) {s : TypeId} {x : Operand} {px : PX} {f off n : Nat} {fs : Array Field} {fd : Field}
    (ho : o.op = .fieldAddr s x f) (hu : P.underlying s = some (.struct fs)) (hf : fs[f]? = some fd) (hoff : fd.offset = off)
    (hn : (P.info? fd.type).map (·.size) = some n) (h0 : 0 < n) (hx : TrX fm x px)
    (hrun : (opE call (PX.ev ts) r (.fieldAddr off n px)).run H = some out) : OpOk P o a w (Post fm B w G H out) := by
  have hv := ev_rep hts hx
  cases hq : P.info? fd.type with
  | none => simp [hq] at hn
  | some it =>
    have hsz : it.size = n := by simpa [hq] using hn
    have hrunA : ∀ b p, (Instr.fieldAt s (.pointer (some ⟨b, p, none⟩)) f).run P w = .ok (.pointer (some ⟨b, p + off, none⟩)) w := by
      intro b p
      have : ¬ n = 0 := by omega
      simp [Instr.fieldAt, run_underlying hu, hf, Instr.sureAddr, fieldPlace, sizeOf, typeInfo, hq, hsz, this, add_mk, hoff]
    simp only [opE] at hrun
    split at hrun
    · rename_i id p e1
      obtain rfl := run_quiet hrun
      rw [e1] at hv
      obtain ⟨b, cap, sz, hg⟩ := GS.ne_fresh hv.ptr_fresh
      have vx := hv.inv_ptr hg
      refine opOk_val (v := .pointer (some ⟨b, p + off, none⟩)) (w' := w) ?_ (post_quiet hI (.ptr _ _ _ hv.ptr_fresh (fun b' c' s' h => ?_) rfl))
      · simp only [execOp, ho, vx, Sem.run_bind, hrunA, Result.andThen_ok, Sem.run_pure]
      · rw [hg] at h; injection h with h _ _; subst h; rfl
    · rename_i cs e1
      obtain rfl := run_quiet hrun
      rw [e1] at hv
      obtain ⟨b, p, vs, vx, hok, hc, hr⟩ := fptr_range hv.inv_fptr
      refine opOk_val (v := .pointer (some ⟨b, p + off, none⟩)) (w' := w) ?_ (post_quiet hI (.closed (fptr_mk hok (hc.drop off) (rangeAt_drop hr off))))
      simp only [execOp, ho, vx, Sem.run_bind, hrunA, Result.andThen_ok, Sem.run_pure]
    · simp [Eff.run] at hrun

theorem part_ok {t : TypeId} {ag : Bool} {n : Nat} (hs : Shape P t ag n) {vs : List Value} {cs : List D} {rep : Value → D → Prop} (hc : CR rep vs cs) {off : Nat} (hle : off + n ≤ cs.length) {d : D}
    (hd : shaped ag ((cs.drop off).take n) = some d) (hagg : ∀ (vs : List Value) (ds : List D), CR rep vs ds → rep (.agg vs.toArray) (.agg ds)) :
    ∃ v, (part t vs.toArray off).run P w = .ok v w ∧ rep v d := by
  obtain ⟨td, i, h1, h2, h3, h4⟩ := hs
  have hag : (isAgg t).run P w = .ok ag w := by
    unfold isAgg
    rw [Sem.run_bind, run_underlying h1 w]
    cases td <;> simp_all [isRowD]
  cases ag with
  | true =>
    simp only [shaped, if_true, Option.some.injEq] at hd
    subst hd
    refine ⟨.agg ((vs.drop off).take n).toArray, ?_, hagg _ _ ((hc.drop off).take n)⟩
    simp [part, hag, sizeOf, typeInfo, h3, h4]
  | false =>
    simp only [shaped, Bool.false_eq_true, if_false] at hd
    split at hd
    · rename_i c hcs
      injection hd with hd
      subst hd
      have h0 : cs[off]? = some c := by
        have : ((cs.drop off).take n)[0]? = some c := by rw [hcs]; rfl
        rw [List.getElem?_take] at this
        split at this
        · simpa [List.getElem?_drop] using this
        · cases this
      obtain ⟨u, a1, a2, a3⟩ := hc.2 off c h0
      refine ⟨u, ?_, a3⟩
      simp [part, hag, a1]
    · cases hd

theorem rep_agg_CR {G : Gh} {ok : Nat → Prop} {cs : List D} {v : Value} (h : Rep fm G ok w v (.agg cs)) : ∃ vs : List Value, v = .agg vs.toArray ∧ CR (Rep fm G ok w) vs cs := by
  obtain ⟨vs, rfl, hl, hone, hr⟩ := h.inv_agg
  refine ⟨vs, rfl, hl, fun j d hj => ?_⟩
  have hj' : j < vs.length := by rw [hl]; exact (List.getElem?_eq_some_iff.1 hj).1
  exact ⟨vs[j], List.getElem?_eq_getElem hj', hone _ (List.getElem_mem hj'), hr j d _ hj (List.getElem?_eq_getElem hj')⟩

theorem op_field (hI : Inv fm B w G H) (hts : TsR (Rep fm G (okB B G H w) w) a.tmps ts) {s : TypeId} {x : Operand} {px : PX} {f off n : Nat} {ag : Bool} {fs : Array Field} {fd : Field}
    (ho : o.op = .field s x f) (hu : P.underlying s = some (.struct fs)) (hf : fs[f]? = some fd) (hoff : fd.offset = off) (hn : Shape P fd.type ag n) (hx : TrX fm x px)
    (hrun : (opE call (PX.ev ts) r (.field ag off n px)).run H = some out) : OpOk P o a w (Post fm B w G H out) := by
  have hv := ev_rep hts hx
  simp only [opE] at hrun
  split at hrun
  · rename_i cs e1
    split at hrun
    · rename_i hle
      obtain ⟨d, hd, rfl⟩ := run_quietO hrun
      rw [e1] at hv
      obtain ⟨vs, vx, hc⟩ := rep_agg_CR hv
      obtain ⟨v, hp, hr⟩ := part_ok (P := P) (w := w) hn hc hle hd (fun vs ds h => rep_agg_of vs h)
      refine opOk_val (v := v) (w' := w) ?_ (post_quiet hI hr)
      simp only [execOp, ho, vx, Instr.field, Sem.run_bind, run_underlying hu, Result.andThen_ok, hf, asAgg, Sem.run_pure, hoff, hp]
    · simp [Eff.run] at hrun
  · simp [Eff.run] at hrun

theorem op_indexAddr (hI : Inv fm B w G H) (hts : TsR (Rep fm G (okB B G H w) w) a.tmps ts) {t e : TypeId} {x i : Operand} {px pi : PX} {sz : Nat}
    (ho : o.op = .indexAddr t x i) (hu : P.underlying t = some (.slice e)) (hs : (P.info? e).map (·.size) = some sz) (hx : TrX fm x px) (hi : TrX fm i pi)
    (hrun : (opE call (PX.ev ts) r (.indexAddr sz px pi)).run H = some out) : OpOk P o a w (Post fm B w G H out) := by
  have hv := ev_rep hts hx
  have hvi := ev_rep hts hi
  cases hq : P.info? e with
  | none => simp [hq] at hs
  | some it =>
    have hsz : it.size = sz := by simpa [hq] using hs
    have hrunA : ∀ (A : Addr) (len cap : Nat) (k : IntKind) (n : Int), 0 ≤ n → n < len → (Instr.indexAt t (.slice (some A) len cap) (.int k n)).run P w = .ok (.pointer (some (A.add (n.toNat * sz)))) w := by
      intro A len cap k n h0 h1
      simp [Instr.indexAt, run_underlying hu, asIntOf, h0, h1, sizeOf, typeInfo, hq, hsz]
    simp only [opE] at hrun
    split at hrun
    · rename_i k n e2
      rw [e2] at hvi
      have vi := hvi.inv_int
      split at hrun
      · rename_i id off len e1
        obtain ⟨s, es, lv, g1, g2⟩ := run_get hrun
        split at g2
        · rename_i hb
          obtain ⟨b0, b1, rfl⟩ := hb
          obtain rfl := run_quiet g2
          rw [e1] at hv
          obtain ⟨b, cap, k1, k2, k3⟩ := hI.rows id s es lv g1
          obtain ⟨r1, A, vx, r2⟩ := hv.inv_ref k1
          have hA : A = ⟨b, off * s, none⟩ := by
            rcases r2 with h | h
            · exact h
            · omega
          subst hA
          refine opOk_val (v := .pointer (some ⟨b, (off + n.toNat) * s, none⟩)) (w' := w) ?_ (post_quiet hI (.ptr _ _ _ hv.ref_fresh (fun b' c' s' h => ?_) rfl))
          · simp only [execOp, ho, vx, vi, Sem.run_bind, hrunA _ len _ _ n b0 b1, add_mk, Result.andThen_ok, Sem.run_pure, Nat.add_mul]
          · rw [k1] at h; injection h with h _ _; subst h; rfl
        · simp [Eff.run] at g2
      · rename_i s es e1
        split at hrun
        · rename_i hb
          obtain ⟨b0, rfl⟩ := hb
          split at hrun
          · rename_i e' he
            obtain rfl := run_quiet hrun
            rw [e1] at hv
            have hlt : n.toNat < es.length := (List.getElem?_eq_some_iff.1 he).1
            rcases lst_range hv.inv_lst with ⟨rfl, _⟩ | ⟨b, o', c, vx, hlc, hok, _, hcells⟩
            · simp at hlt
            · obtain ⟨cs, c1, c2⟩ := hcells _ _ he
              refine opOk_val (v := .pointer (some ⟨b, o' + n.toNat * s, none⟩)) (w' := w) ?_ (post_quiet hI (.closed (fptr_mk hok c1 c2)))
              simp only [execOp, ho, vx, vi, Sem.run_bind, hrunA _ es.length _ _ n b0 (by omega), add_mk, Result.andThen_ok, Sem.run_pure]
          · simp [Eff.run] at hrun
        · simp [Eff.run] at hrun
      · simp [Eff.run] at hrun
    · simp [Eff.run] at hrun

theorem op_indexAddrA (hI : Inv fm B w G H) (hts : TsR (Rep fm G (okB B G H w) w) a.tmps ts) {t e : TypeId} {x i : Operand} {px pi : PX} {sz len : Nat}
    (ho : o.op = .indexAddr t x i) (hu : P.underlying t = some (.array len e)) (hs : (P.info? e).map (·.size) = some sz) (hx : TrX fm x px) (hi : TrX fm i pi)
    (hrun : (opE call (PX.ev ts) r (.indexAddrA sz len px pi)).run H = some out) : OpOk P o a w (Post fm B w G H out) := by
  have hv := ev_rep hts hx
  have hvi := ev_rep hts hi
  cases hq : P.info? e with
  | none => simp [hq] at hs
  | some it =>
    have hsz : it.size = sz := by simpa [hq] using hs
    have hrunA : ∀ (A : Addr) (k : IntKind) (n : Int), 0 ≤ n → n < len → (Instr.indexAt t (.pointer (some A)) (.int k n)).run P w = .ok (.pointer (some (A.add (n.toNat * sz)))) w := by
      intro A k n h0 h1
      simp [Instr.indexAt, run_underlying hu, asIntOf, h0, h1, sizeOf, typeInfo, hq, hsz, Instr.sureAddr]
    simp only [opE] at hrun
    split at hrun
    · rename_i k n e2
      rw [e2] at hvi
      have vi := hvi.inv_int
      split at hrun
      · rename_i hb
        obtain ⟨b0, b1⟩ := hb
        split at hrun
        · rename_i id p e1
          obtain rfl := run_quiet hrun
          rw [e1] at hv
          obtain ⟨b, cap, s, hg⟩ := GS.ne_fresh hv.ptr_fresh
          have vx := hv.inv_ptr hg
          refine opOk_val (v := .pointer (some ⟨b, p + n.toNat * sz, none⟩)) (w' := w) ?_ (post_quiet hI (.ptr _ _ _ hv.ptr_fresh (fun b' c' s' h => ?_) rfl))
          · simp only [execOp, ho, vx, vi, Sem.run_bind, hrunA _ _ n b0 b1, add_mk, Result.andThen_ok, Sem.run_pure]
          · rw [hg] at h; injection h with h _ _; subst h; rfl
        · rename_i cs e1
          obtain rfl := run_quiet hrun
          rw [e1] at hv
          obtain ⟨b, p, vs, vx, hok, hc, hr⟩ := fptr_range hv.inv_fptr
          refine opOk_val (v := .pointer (some ⟨b, p + n.toNat * sz, none⟩)) (w' := w) ?_ (post_quiet hI (.closed (fptr_mk hok (hc.drop _) (rangeAt_drop hr _))))
          simp only [execOp, ho, vx, vi, Sem.run_bind, hrunA _ _ n b0 b1, add_mk, Result.andThen_ok, Sem.run_pure]
        · simp [Eff.run] at hrun
      · simp [Eff.run] at hrun
    · simp [Eff.run] at hrun

theorem op_index (hI : Inv fm B w G H) (hts : TsR (Rep fm G (okB B G H w) w) a.tmps ts) {t e : TypeId} {x i : Operand} {px pi : PX} {sz len : Nat} {ag : Bool}
    (ho : o.op = .index t x i) (hu : P.underlying t = some (.array len e)) (hs : Shape P e ag sz) (hx : TrX fm x px) (hi : TrX fm i pi)
    (hrun : (opE call (PX.ev ts) r (.index ag sz len px pi)).run H = some out) : OpOk P o a w (Post fm B w G H out) := by
  have hv := ev_rep hts hx
  have hvi := ev_rep hts hi
  simp only [opE] at hrun
  split at hrun
  · rename_i k n cs e2 e1
    split at hrun
    · rename_i hb
      obtain ⟨b0, b1, b2⟩ := hb
      obtain ⟨d, hd, rfl⟩ := run_quietO hrun
      rw [e2] at hvi; rw [e1] at hv
      have vi := hvi.inv_int
      obtain ⟨vs, vx, hc⟩ := rep_agg_CR hv
      obtain ⟨v, hp, hr⟩ := part_ok (P := P) (w := w) hs hc b2 hd (fun vs ds h => rep_agg_of vs h)
      obtain ⟨td, it, h1, h2, h3, h4⟩ := hs
      refine opOk_val (v := v) (w' := w) ?_ (post_quiet hI hr)
      simp only [execOp, ho, vx, vi, Instr.index, Sem.run_bind, asIntOf, Sem.run_pure, run_underlying hu, Result.andThen_ok, if_pos (And.intro b0 b1), sizeOf, typeInfo, run_program, h3, h4, hp]
    · simp [Eff.run] at hrun
  · simp [Eff.run] at hrun

theorem op_indexS (hI : Inv fm B w G H) (hts : TsR (Rep fm G (okB B G H w) w) a.tmps ts) {t : TypeId} {x i : Operand} {px pi : PX}
    (ho : o.op = .index t x i) (hu : P.underlying t = some .string) (hx : TrX fm x px) (hi : TrX fm i pi)
    (hrun : (opE call (PX.ev ts) r (.indexS px pi)).run H = some out) : OpOk P o a w (Post fm B w G H out) := by
  have hv := ev_rep hts hx
  have hvi := ev_rep hts hi
  simp only [opE] at hrun
  split at hrun
  · rename_i k n s e2 e1
    split at hrun
    · rename_i b0
      obtain ⟨d, hd, rfl⟩ := run_quietO hrun
      simp only [Option.map_eq_some_iff] at hd
      obtain ⟨c, hc, rfl⟩ := hd
      rw [e2] at hvi; rw [e1] at hv
      have vi := hvi.inv_int
      have vx := hv.inv_str
      have hlt : n.toNat < s.length := (List.getElem?_eq_some_iff.1 hc).1
      have hg : (⟨s.toArray⟩ : ByteArray)[n.toNat]? = some c := by
        have hh : n.toNat < (⟨s.toArray⟩ : ByteArray).size := hlt
        rw [getElem?_pos (⟨s.toArray⟩ : ByteArray) n.toNat hh]
        rw [List.getElem?_eq_getElem hlt] at hc
        injection hc with hc
        rw [← hc]
        rfl
      refine opOk_val (v := .int .u8 (c.toNat : Int)) (w' := w) ?_ (post_quiet hI (.closed (.int _ _)))
      simp only [execOp, ho, vx, vi, Instr.index, Sem.run_bind, asIntOf, Sem.run_pure, run_underlying hu, Result.andThen_ok, if_pos b0, hg]
    · simp [Eff.run] at hrun
  · simp [Eff.run] at hrun

theorem op_extract (hI : Inv fm B w G H) (hts : TsR (Rep fm G (okB B G H w) w) a.tmps ts) {x : Operand} {px : PX} {i : Nat} (ho : o.op = .extract x i) (hx : TrX fm x px)
    (hrun : (opE call (PX.ev ts) r (.extract px i)).run H = some out) : OpOk P o a w (Post fm B w G H out) := by
  have hv := ev_rep hts hx
  simp only [opE] at hrun
  split at hrun
  · rename_i ds e1
    obtain ⟨d, hd, rfl⟩ := run_quietO hrun
    rw [e1] at hv
    obtain ⟨vs, vx, hl, hr⟩ := hv.inv_tup
    have hj : i < vs.length := by rw [hl]; exact (List.getElem?_eq_some_iff.1 hd).1
    refine opOk_val (v := vs[i]) (w' := w) ?_ (post_quiet hI (hr i d _ hd (List.getElem?_eq_getElem hj)))
    simp [execOp, ho, vx, Instr.extract, hj]
  · simp [Eff.run] at hrun

theorem len_fin (hI : Inv fm B w G H) {t : TypeId} {x : Operand} (ho : o.op = .call { callee := .builtin .len, args := #[x], argTypes := #[t] }) (n : Nat)
    (h : (Builtin.len_ #[t] o.type #[a.eval x]).run P w = .ok (goInt n) w) : OpOk P o a w (Post fm B w G H ⟨.int .i64 (n : Int), [], []⟩) := by
  refine opOk_val (v := .int .i64 (n : Int)) (w' := w) ?_ (post_quiet hI (.closed (.int _ _)))
  simp only [execOp, ho, resolve, Sem.run_bind, Sem.run_pure, Result.andThen_ok, invoke, builtin, List.map_toArray, List.map_cons, List.map_nil, h]
  rfl

theorem op_lenS (hI : Inv fm B w G H) (hts : TsR (Rep fm G (okB B G H w) w) a.tmps ts) {t : TypeId} {x : Operand} {px : PX} (ho : o.op = .call { callee := .builtin .len, args := #[x], argTypes := #[t] })
    (hu : P.underlying t = some .string) (hx : TrX fm x px) (hrun : (opE call (PX.ev ts) r (.lenS px)).run H = some out) : OpOk P o a w (Post fm B w G H out) := by
  have hv := ev_rep hts hx
  simp only [opE] at hrun
  split at hrun
  · rename_i s e1
    obtain rfl := run_quiet hrun
    rw [e1] at hv
    refine len_fin hI ho s.length ?_
    rw [hv.inv_str]
    simp [Builtin.len_, run_underlying hu]
    rfl
  · simp [Eff.run] at hrun

theorem op_len (hI : Inv fm B w G H) (hts : TsR (Rep fm G (okB B G H w) w) a.tmps ts) {t e : TypeId} {x : Operand} {px : PX} (ho : o.op = .call { callee := .builtin .len, args := #[x], argTypes := #[t] })
    (hu : P.underlying t = some (.slice e)) (hx : TrX fm x px) (hrun : (opE call (PX.ev ts) r (.len px)).run H = some out) : OpOk P o a w (Post fm B w G H out) := by
  have hv := ev_rep hts hx
  simp only [opE] at hrun
  split at hrun
  · rename_i e1
    obtain rfl := run_quiet hrun
    rw [e1] at hv
    refine len_fin hI ho 0 ?_
    rw [hv.inv_nil]
    simp [Builtin.len_, run_underlying hu]
  · rename_i s es e1
    obtain rfl := run_quiet hrun
    rw [e1] at hv
    refine len_fin hI ho es.length ?_
    rcases lst_range hv.inv_lst with ⟨rfl, A, c, vx⟩ | ⟨b, o', c, vx, _⟩ <;> rw [vx] <;> simp [Builtin.len_, run_underlying hu]
  · rename_i id off len e1
    obtain rfl := run_quiet hrun
    rw [e1] at hv
    refine len_fin hI ho len ?_
    obtain ⟨b, cap, s, hg⟩ := GS.ne_fresh hv.ref_fresh
    obtain ⟨_, A, vx, _⟩ := hv.inv_ref hg
    rw [vx]
    simp [Builtin.len_, run_underlying hu]
  · simp [Eff.run] at hrun
end
end Go.Pi
