import Derived.Test.YtakonddhaabobaaGreatPB
import Derived.DeepKeys
import Derived.Laws.StructEq
set_option linter.all false
namespace Go.Pi
set_option linter.unusedVariables false
section
variable {P : Program} {fm : Nat → Nat} {B : Base} {w : World} {G : Gh} {H : Heap} {o : Oper} {a : Act} {ts : List D} {call : CallF} {r : Nat} {out : Out}
theorem rangeAt_drop {b o : Nat} {cs : List Value} (h : w.rangeAt b o cs) (j : Nat) : w.rangeAt b (o + j) (cs.drop j) := by
 intro k v hv
 rw [List.getElem?_drop] at hv
 have := h (j + k) v hv
 rwa [show o + (j + k) = o + j + k by omega] at this
theorem cut_ok {rep : Value → D → Prop} (hint : ∀ {v : Value} {k : IntKind} {n : Int}, rep v (D.int k n) → v = Value.int k n) {len cap : Nat} (hc : len ≤ cap) {lo hi : Option Operand} {plo phi : Option PX}
  (hlo : TrO fm lo plo) (hhi : TrO fm hi phi) (hev : ∀ {x : Operand} {px : PX}, TrX fm x px → rep (a.eval x) (px.ev ts)) {p : Nat × Nat} (h : cut len (plo.map (PX.ev ts)) (phi.map (PX.ev ts)) = some p) (isSlice : Bool) :
  p.1 ≤ p.2 ∧ p.2 ≤ len ∧ ∃ m, m = (if isSlice then cap else cap) ∧ (Instr.sliceBounds isSlice len cap (lo.map a.eval) (hi.map a.eval) none).run P w = .ok (p.1, p.2, cap) w := by
 unfold cut at h
 have key : ∃ hh : Nat, hh ≤ len ∧ (match hi.map a.eval with
   | some v => Instr.sliceBound v cap (if isSlice then .sliceAcap else .sliceAlen)
   | none => pure len : Sem Nat).run P w = .ok hh w ∧ (match plo.map (PX.ev ts) with
    | none => some (0, hh)
    | some (.int _ n) => if 0 ≤ n ∧ n ≤ hh then some (n.toNat, hh) else none
    | _ => none) = some p := by
  cases hhi with
  | none =>
   simp only [Option.map_none, Option.bind_some] at h
   exact ⟨len, Nat.le_refl _, rfl, h⟩
  | some hx =>
   rename_i x px
   have hv := hev hx
   simp only [Option.map_some] at h ⊢
   cases e : px.ev ts <;> rw [e] at h hv <;> simp only [Option.bind_none, reduceCtorEq] at h
   rename_i k n
   split at h
   ·rename_i hn
    simp only [Option.bind_some] at h
    rw [hint hv]
    exact ⟨n.toNat, by omega, run_sliceBound w k n cap _ hn.1 (by omega), h⟩
   ·cases h
 obtain ⟨hh, h1, h2, h3⟩ := key
 have key2 : p.2 = hh ∧ p.1 ≤ hh ∧ (match lo.map a.eval with
   | some v => Instr.sliceBound v hh (if (none : Option Value).isSome then .slice3C else .sliceB)
   | none => pure 0 : Sem Nat).run P w = .ok p.1 w := by
  cases hlo with
  | none =>
   simp only [Option.map_none, Option.some.injEq] at h3 ⊢
   subst h3
   exact ⟨rfl, Nat.zero_le _, rfl⟩
  | some hx =>
   rename_i x px
   have hv := hev hx
   simp only [Option.map_some] at h3 ⊢
   cases e : px.ev ts <;> rw [e] at h3 hv <;> simp only [reduceCtorEq] at h3
   rename_i k n
   split at h3
   ·rename_i hn
    injection h3 with h3
    subst h3
    rw [hint hv]
    exact ⟨rfl, by show n.toNat ≤ hh; omega, run_sliceBound w k n hh _ hn.1 (by omega)⟩
   ·cases h3
 obtain ⟨g1, g2, g3⟩ := key2
 refine ⟨by omega, by omega, cap, by simp, ?_⟩
 cases hhm : Option.map a.eval hi <;> cases hlm : Option.map a.eval lo <;> rw [hhm] at h2 <;> rw [hlm] at g3 <;>
  simp only [Sem.run_pure, Result.ok.injEq, and_true] at h2 g3 <;>
  simp only [Instr.sliceBounds, Sem.run_bind, Sem.run_pure, Result.andThen_ok, h2, g3, g1]
theorem op_slice (hI : Inv fm B w G H) (hts : TsR (Rep fm G (okB B G H w) w) a.tmps ts) {t e : TypeId} {i : TypeInfo} {sz : Nat} {x : Operand} {px : PX} {lo hi : Option Operand} {plo phi : Option PX}
  (ho : o.op = .slice t x lo hi none) (hu : P.underlying t = some (.slice e)) (hie : P.info? e = some i) (hsz : i.size = sz) (hx : TrX fm x px) (hlo : TrO fm lo plo) (hhi : TrO fm hi phi)
  (hrun : (opE call (PX.ev ts) r (.slice sz px plo phi)).run H = some out) : OpOk P o a w (Post fm B w G H out) := by
 have hv := ev_rep hts hx
 have main : ∀ (A : Option Addr) (len cap : Nat) (p : Nat × Nat) (d : D), a.eval x = .slice A len cap → len ≤ cap → cut len (plo.map (PX.ev ts)) (phi.map (PX.ev ts)) = some p →
   (p.1 ≤ p.2 → p.2 ≤ len → Rep fm G (okB B G H w) w (sliced A p.1 p.2 cap sz) d) → OpOk P o a w (Post fm B w G H ⟨d, [], []⟩) := by
  intro A len cap p d he hc hcut hrep
  obtain ⟨h1, h2, m, _, h3⟩ := cut_ok (P := P) (w := w) (a := a) (ts := ts) (rep := Rep fm G (okB B G H w) w) (fun h => h.inv_int) hc hlo hhi (fun h => ev_rep hts h) hcut true
  have hel : P.elem t = e := by simp [Program.elem, hu]
  have hu' : P.underlying t = some (.slice (P.elem t)) := by rw [hel]; exact hu
  refine opOk_val (v := sliced A p.1 p.2 cap sz) (w' := w) ?_ (post_quiet hI (hrep h1 h2))
  simp only [execOp, ho, he, Option.map_none, Sem.run_bind, run_sliceAt_slice w t _ _ _ _ hu', run_slice_any w t A len cap hu', h3, Result.andThen_ok, hel]
  simp [sizeOf, typeInfo, hie, hsz]
 simp only [opE] at hrun
 split at hrun
 ·rename_i e1
  obtain ⟨d, hd, rfl⟩ := run_quietO hrun
  simp only [Option.map_eq_some_iff] at hd
  obtain ⟨p, hp, rfl⟩ := hd
  rw [e1] at hv
  refine main none 0 0 p _ hv.inv_nil (Nat.le_refl _) hp (fun h1 h2 => .closed ?_)
  have hp1 : p.1 = 0 := by omega
  have hp2 : p.2 = 0 := by omega
  rw [hp1, hp2]
  exact .nil
 ·rename_i s es e1
  split at hrun
  ·rename_i hs
   subst hs
   obtain ⟨d, hd, rfl⟩ := run_quietO hrun
   simp only [Option.map_eq_some_iff] at hd
   obtain ⟨p, hp, rfl⟩ := hd
   rw [e1] at hv
   have hc := hv.inv_lst
   rcases lst_range hc with ⟨rfl, A, c, hvv⟩ | ⟨b, o', c, hvv, hlc, _, _, _⟩
   ·refine main A 0 c p _ hvv (Nat.zero_le _) (by simpa using hp) (fun h1 h2 => .closed ?_)
    have hp1 : p.1 = 0 := by omega
    have hp2 : p.2 = 0 := by omega
    rw [hp1, hp2]
    simp only [List.drop_nil, List.take_nil]
    unfold sliced
    by_cases hm : c = 0
    ·rw [if_pos hm]
     exact .lst0 _ _ _
    ·rw [if_neg hm]
     exact .lst0 _ _ _
   ·refine main (some ⟨b, o', none⟩) es.length c p _ hvv hlc hp (fun h1 h2 => .closed ?_)
    rw [hvv] at hc
    unfold sliced
    by_cases hm : c = p.1
    ·have : p.2 - p.1 = 0 := by omega
     rw [if_pos hm, this]
     simp only [List.take_zero]
     exact .lst0 _ _ _
    ·rw [if_neg hm]
     simp only [Option.map_some, add_mk]
     exact lst_part hc p.1 (p.2 - p.1) (by omega) (c - p.1) (by omega)
  ·simp [Eff.run] at hrun
 ·rename_i id off len e1
  obtain ⟨s, es, lv, g1, g2⟩ := run_get hrun
  split at g2
  ·rename_i hs
   subst hs
   obtain ⟨d, hd, rfl⟩ := run_quietO g2
   simp only [Option.map_eq_some_iff] at hd
   obtain ⟨p, hp, rfl⟩ := hd
   rw [e1] at hv
   obtain ⟨b, cap, k1, k2, k3⟩ := hI.rows id s es lv g1
   obtain ⟨r1, A, hvv, r2⟩ := hv.inv_ref k1
   refine main (some A) len (cap - off) p _ hvv (by omega) hp (fun h1 h2 => .ref id _ _ _ hv.ref_fresh ?_ rfl)
   intro b' cap' sz' hg
   rw [k1] at hg
   injection hg with q1 q2 q3
   subst q1; subst q2; subst q3
   refine ⟨by omega, (if cap - off = p.1 then A else A.add (p.1 * s)), ?_, ?_⟩
   ·unfold sliced
    rw [show cap - (off + p.1) = cap - off - p.1 by omega]
    by_cases hm : cap - off = p.1
    ·rw [if_pos hm, if_pos hm]
    ·rw [if_neg hm, if_neg hm]; rfl
   ·rcases r2 with rfl | r2
    ·by_cases hm : cap - off = p.1
     ·exact .inr (by omega)
     ·rw [if_neg hm, add_mk]
      exact .inl (by rw [Nat.add_mul])
    ·exact .inr (by omega)
  ·simp [Eff.run] at g2
 ·simp [Eff.run] at hrun
theorem op_sliceS (hI : Inv fm B w G H) (hts : TsR (Rep fm G (okB B G H w) w) a.tmps ts) {t : TypeId} {x : Operand} {px : PX} {lo hi : Option Operand} {plo phi : Option PX}
  (ho : o.op = .slice t x lo hi none) (hu : P.underlying t = some .string) (hx : TrX fm x px) (hlo : TrO fm lo plo) (hhi : TrO fm hi phi)
  (hrun : (opE call (PX.ev ts) r (.sliceS px plo phi)).run H = some out) : OpOk P o a w (Post fm B w G H out) := by
 have hv := ev_rep hts hx
 simp only [opE] at hrun
 split at hrun
 ·rename_i s e1
  obtain ⟨d, hd, rfl⟩ := run_quietO hrun
  simp only [Option.map_eq_some_iff] at hd
  obtain ⟨p, hp, rfl⟩ := hd
  rw [e1] at hv
  have vx := hv.inv_str
  obtain ⟨h1, h2, m, _, h3⟩ := cut_ok (P := P) (w := w) (a := a) (ts := ts) (rep := Rep fm G (okB B G H w) w) (fun h => h.inv_int) (Nat.le_refl s.length) hlo hhi (fun h => ev_rep hts h) hp false
  have hex : (⟨s.toArray⟩ : ByteArray).extract p.1 p.2 = ⟨((s.drop p.1).take (p.2 - p.1)).toArray⟩ := by
   apply ByteArray.ext
   simp [ByteArray.data_extract]
  refine opOk_val (v := .string ⟨((s.drop p.1).take (p.2 - p.1)).toArray⟩) (w' := w) ?_ (post_quiet hI (.closed (.str _)))
  have hsz : (⟨s.toArray⟩ : ByteArray).size = s.length := rfl
  simp only [execOp, ho, vx, Option.map_none, Sem.run_bind, run_sliceAt_string w t _ _ _ _ hu, Instr.slice, run_underlying hu, Result.andThen_ok, hsz, h3, Option.isSome_none, Bool.false_eq_true, if_false, Sem.run_pure, hex]
 ·simp [Eff.run] at hrun
theorem op_fieldAddr (hI : Inv fm B w G H) (hts : TsR (Rep fm G (okB B G H w) w) a.tmps ts) {s : TypeId} {x : Operand} {px : PX} {f off n : Nat} {fs : Array Field} {fd : Field}
  (ho : o.op = .fieldAddr s x f) (hu : P.underlying s = some (.struct fs)) (hf : fs[f]? = some fd) (hoff : fd.offset = off)
  (hn : (P.info? fd.type).map (·.size) = some n) (h0 : 0 < n) (hx : TrX fm x px)
  (hrun : (opE call (PX.ev ts) r (.fieldAddr off n px)).run H = some out) : OpOk P o a w (Post fm B w G H out) := by
 have hv := ev_rep hts hx
 cases hq : P.info? fd.type with
 | none => simp [hq] at hn
 | some it =>
  have hsz : it.size = n := by simpa [hq] using hn
  have hrunA : ∀ b p, (Instr.fieldAt s (.pointer (some ⟨b, p, none⟩)) f).run P w = .ok (.pointer (some ⟨b, p + off, none⟩)) w := by
   intro b p
   have : ¬ n = 0 := by omega
   simp [Instr.fieldAt, run_underlying hu, hf, Instr.sureAddr, fieldPlace, sizeOf, typeInfo, hq, hsz, this, add_mk, hoff]
  simp only [opE] at hrun
  split at hrun
  ·rename_i id p e1
   obtain rfl := run_quiet hrun
   rw [e1] at hv
   obtain ⟨b, cap, sz, hg⟩ := GS.ne_fresh hv.ptr_fresh
   have vx := hv.inv_ptr hg
   refine opOk_val (v := .pointer (some ⟨b, p + off, none⟩)) (w' := w) ?_ (post_quiet hI (.ptr _ _ _ hv.ptr_fresh (fun b' c' s' h => ?_) rfl))
   ·simp only [execOp, ho, vx, Sem.run_bind, hrunA, Result.andThen_ok, Sem.run_pure]
   ·rw [hg] at h; injection h with h _ _; subst h; rfl
  ·rename_i cs e1
   obtain rfl := run_quiet hrun
   rw [e1] at hv
   obtain ⟨b, p, vs, vx, hok, hc, hr⟩ := fptr_range hv.inv_fptr
   refine opOk_val (v := .pointer (some ⟨b, p + off, none⟩)) (w' := w) ?_ (post_quiet hI (.closed (fptr_mk hok (hc.drop off) (rangeAt_drop hr off))))
   simp only [execOp, ho, vx, Sem.run_bind, hrunA, Result.andThen_ok, Sem.run_pure]
  ·simp [Eff.run] at hrun
theorem part_ok {t : TypeId} {ag : Bool} {n : Nat} (hs : Shape P t ag n) {vs : List Value} {cs : List D} {rep : Value → D → Prop} (hc : CR rep vs cs) {off : Nat} (hle : off + n ≤ cs.length) {d : D}
  (hd : shaped ag ((cs.drop off).take n) = some d) (hagg : ∀ (vs : List Value) (ds : List D), CR rep vs ds → rep (.agg vs.toArray) (.agg ds)) :
  ∃ v, (part t vs.toArray off).run P w = .ok v w ∧ rep v d := by
 obtain ⟨td, i, h1, h2, h3, h4⟩ := hs
 have hag : (isAgg t).run P w = .ok ag w := by
  unfold isAgg
  rw [Sem.run_bind, run_underlying h1 w]
  cases td <;> simp_all [isRowD]
 cases ag with
 | true =>
  simp only [shaped, if_true, Option.some.injEq] at hd
  subst hd
  refine ⟨.agg ((vs.drop off).take n).toArray, ?_, hagg _ _ ((hc.drop off).take n)⟩
  simp [part, hag, sizeOf, typeInfo, h3, h4]
 | false =>
  simp only [shaped, Bool.false_eq_true, if_false] at hd
  split at hd
  ·rename_i c hcs
   injection hd with hd
   subst hd
   have h0 : cs[off]? = some c := by
    have : ((cs.drop off).take n)[0]? = some c := by rw [hcs]; rfl
    rw [List.getElem?_take] at this
    split at this
    ·simpa [List.getElem?_drop] using this
    ·cases this
   obtain ⟨u, a1, a2, a3⟩ := hc.2 off c h0
   refine ⟨u, ?_, a3⟩
   simp [part, hag, a1]
  ·cases hd
theorem rep_agg_CR {G : Gh} {ok : Nat → Prop} {cs : List D} {v : Value} (h : Rep fm G ok w v (.agg cs)) : ∃ vs : List Value, v = .agg vs.toArray ∧ CR (Rep fm G ok w) vs cs := by
 obtain ⟨vs, rfl, hl, hone, hr⟩ := h.inv_agg
 refine ⟨vs, rfl, hl, fun j d hj => ?_⟩
 have hj' : j < vs.length := by rw [hl]; exact (List.getElem?_eq_some_iff.1 hj).1
 exact ⟨vs[j], List.getElem?_eq_getElem hj', hone _ (List.getElem_mem hj'), hr j d _ hj (List.getElem?_eq_getElem hj')⟩
theorem op_field (hI : Inv fm B w G H) (hts : TsR (Rep fm G (okB B G H w) w) a.tmps ts) {s : TypeId} {x : Operand} {px : PX} {f off n : Nat} {ag : Bool} {fs : Array Field} {fd : Field}
  (ho : o.op = .field s x f) (hu : P.underlying s = some (.struct fs)) (hf : fs[f]? = some fd) (hoff : fd.offset = off) (hn : Shape P fd.type ag n) (hx : TrX fm x px)
  (hrun : (opE call (PX.ev ts) r (.field ag off n px)).run H = some out) : OpOk P o a w (Post fm B w G H out) := by
 have hv := ev_rep hts hx
 simp only [opE] at hrun
 split at hrun
 ·rename_i cs e1
  split at hrun
  ·rename_i hle
   obtain ⟨d, hd, rfl⟩ := run_quietO hrun
   rw [e1] at hv
   obtain ⟨vs, vx, hc⟩ := rep_agg_CR hv
   obtain ⟨v, hp, hr⟩ := part_ok (P := P) (w := w) hn hc hle hd (fun vs ds h => rep_agg_of vs h)
   refine opOk_val (v := v) (w' := w) ?_ (post_quiet hI hr)
   simp only [execOp, ho, vx, Instr.field, Sem.run_bind, run_underlying hu, Result.andThen_ok, hf, asAgg, Sem.run_pure, hoff, hp]
  ·simp [Eff.run] at hrun
 ·simp [Eff.run] at hrun
theorem op_indexAddr (hI : Inv fm B w G H) (hts : TsR (Rep fm G (okB B G H w) w) a.tmps ts) {t e : TypeId} {x i : Operand} {px pi : PX} {sz : Nat}
  (ho : o.op = .indexAddr t x i) (hu : P.underlying t = some (.slice e)) (hs : (P.info? e).map (·.size) = some sz) (hx : TrX fm x px) (hi : TrX fm i pi)
  (hrun : (opE call (PX.ev ts) r (.indexAddr sz px pi)).run H = some out) : OpOk P o a w (Post fm B w G H out) := by
 have hv := ev_rep hts hx
 have hvi := ev_rep hts hi
 cases hq : P.info? e with
 | none => simp [hq] at hs
 | some it =>
  have hsz : it.size = sz := by simpa [hq] using hs
  have hrunA : ∀ (A : Addr) (len cap : Nat) (k : IntKind) (n : Int), 0 ≤ n → n < len → (Instr.indexAt t (.slice (some A) len cap) (.int k n)).run P w = .ok (.pointer (some (A.add (n.toNat * sz)))) w := by
   intro A len cap k n h0 h1
   simp [Instr.indexAt, run_underlying hu, asIntOf, h0, h1, sizeOf, typeInfo, hq, hsz]
  simp only [opE] at hrun
  split at hrun
  ·rename_i k n e2
   rw [e2] at hvi
   have vi := hvi.inv_int
   split at hrun
   ·rename_i id off len e1
    obtain ⟨s, es, lv, g1, g2⟩ := run_get hrun
    split at g2
    ·rename_i hb
     obtain ⟨b0, b1, rfl⟩ := hb
     obtain rfl := run_quiet g2
     rw [e1] at hv
     obtain ⟨b, cap, k1, k2, k3⟩ := hI.rows id s es lv g1
     obtain ⟨r1, A, vx, r2⟩ := hv.inv_ref k1
     have hA : A = ⟨b, off * s, none⟩ := by
      rcases r2 with h | h
      ·exact h
      ·omega
     subst hA
     refine opOk_val (v := .pointer (some ⟨b, (off + n.toNat) * s, none⟩)) (w' := w) ?_ (post_quiet hI (.ptr _ _ _ hv.ref_fresh (fun b' c' s' h => ?_) rfl))
     ·simp only [execOp, ho, vx, vi, Sem.run_bind, hrunA _ len _ _ n b0 b1, add_mk, Result.andThen_ok, Sem.run_pure, Nat.add_mul]
     ·rw [k1] at h; injection h with h _ _; subst h; rfl
    ·simp [Eff.run] at g2
   ·rename_i s es e1
    split at hrun
    ·rename_i hb
     obtain ⟨b0, rfl⟩ := hb
     split at hrun
     ·rename_i e' he
      obtain rfl := run_quiet hrun
      rw [e1] at hv
      have hlt : n.toNat < es.length := (List.getElem?_eq_some_iff.1 he).1
      rcases lst_range hv.inv_lst with ⟨rfl, _⟩ | ⟨b, o', c, vx, hlc, hok, _, hcells⟩
      ·simp at hlt
      ·obtain ⟨cs, c1, c2⟩ := hcells _ _ he
       refine opOk_val (v := .pointer (some ⟨b, o' + n.toNat * s, none⟩)) (w' := w) ?_ (post_quiet hI (.closed (fptr_mk hok c1 c2)))
       simp only [execOp, ho, vx, vi, Sem.run_bind, hrunA _ es.length _ _ n b0 (by omega), add_mk, Result.andThen_ok, Sem.run_pure]
     ·simp [Eff.run] at hrun
    ·simp [Eff.run] at hrun
   ·simp [Eff.run] at hrun
  ·simp [Eff.run] at hrun
theorem op_indexAddrA (hI : Inv fm B w G H) (hts : TsR (Rep fm G (okB B G H w) w) a.tmps ts) {t e : TypeId} {x i : Operand} {px pi : PX} {sz len : Nat}
  (ho : o.op = .indexAddr t x i) (hu : P.underlying t = some (.array len e)) (hs : (P.info? e).map (·.size) = some sz) (hx : TrX fm x px) (hi : TrX fm i pi)
  (hrun : (opE call (PX.ev ts) r (.indexAddrA sz len px pi)).run H = some out) : OpOk P o a w (Post fm B w G H out) := by
 have hv := ev_rep hts hx
 have hvi := ev_rep hts hi
 cases hq : P.info? e with
 | none => simp [hq] at hs
 | some it =>
  have hsz : it.size = sz := by simpa [hq] using hs
  have hrunA : ∀ (A : Addr) (k : IntKind) (n : Int), 0 ≤ n → n < len → (Instr.indexAt t (.pointer (some A)) (.int k n)).run P w = .ok (.pointer (some (A.add (n.toNat * sz)))) w := by
   intro A k n h0 h1
   simp [Instr.indexAt, run_underlying hu, asIntOf, h0, h1, sizeOf, typeInfo, hq, hsz, Instr.sureAddr]
  simp only [opE] at hrun
  split at hrun
  ·rename_i k n e2
   rw [e2] at hvi
   have vi := hvi.inv_int
   split at hrun
   ·rename_i hb
    obtain ⟨b0, b1⟩ := hb
    split at hrun
    ·rename_i id p e1
     obtain rfl := run_quiet hrun
     rw [e1] at hv
     obtain ⟨b, cap, s, hg⟩ := GS.ne_fresh hv.ptr_fresh
     have vx := hv.inv_ptr hg
     refine opOk_val (v := .pointer (some ⟨b, p + n.toNat * sz, none⟩)) (w' := w) ?_ (post_quiet hI (.ptr _ _ _ hv.ptr_fresh (fun b' c' s' h => ?_) rfl))
     ·simp only [execOp, ho, vx, vi, Sem.run_bind, hrunA _ _ n b0 b1, add_mk, Result.andThen_ok, Sem.run_pure]
     ·rw [hg] at h; injection h with h _ _; subst h; rfl
    ·rename_i cs e1
     obtain rfl := run_quiet hrun
     rw [e1] at hv
     obtain ⟨b, p, vs, vx, hok, hc, hr⟩ := fptr_range hv.inv_fptr
     refine opOk_val (v := .pointer (some ⟨b, p + n.toNat * sz, none⟩)) (w' := w) ?_ (post_quiet hI (.closed (fptr_mk hok (hc.drop _) (rangeAt_drop hr _))))
     simp only [execOp, ho, vx, vi, Sem.run_bind, hrunA _ _ n b0 b1, add_mk, Result.andThen_ok, Sem.run_pure]
    ·simp [Eff.run] at hrun
   ·simp [Eff.run] at hrun
  ·simp [Eff.run] at hrun
theorem op_index (hI : Inv fm B w G H) (hts : TsR (Rep fm G (okB B G H w) w) a.tmps ts) {t e : TypeId} {x i : Operand} {px pi : PX} {sz len : Nat} {ag : Bool}
  (ho : o.op = .index t x i) (hu : P.underlying t = some (.array len e)) (hs : Shape P e ag sz) (hx : TrX fm x px) (hi : TrX fm i pi)
  (hrun : (opE call (PX.ev ts) r (.index ag sz len px pi)).run H = some out) : OpOk P o a w (Post fm B w G H out) := by
 have hv := ev_rep hts hx
 have hvi := ev_rep hts hi
 simp only [opE] at hrun
 split at hrun
 ·rename_i k n cs e2 e1
  split at hrun
  ·rename_i hb
   obtain ⟨b0, b1, b2⟩ := hb
   obtain ⟨d, hd, rfl⟩ := run_quietO hrun
   rw [e2] at hvi; rw [e1] at hv
   have vi := hvi.inv_int
   obtain ⟨vs, vx, hc⟩ := rep_agg_CR hv
   obtain ⟨v, hp, hr⟩ := part_ok (P := P) (w := w) hs hc b2 hd (fun vs ds h => rep_agg_of vs h)
   obtain ⟨td, it, h1, h2, h3, h4⟩ := hs
   refine opOk_val (v := v) (w' := w) ?_ (post_quiet hI hr)
   simp only [execOp, ho, vx, vi, Instr.index, Sem.run_bind, asIntOf, Sem.run_pure, run_underlying hu, Result.andThen_ok, if_pos (And.intro b0 b1), sizeOf, typeInfo, run_program, h3, h4, hp]
  ·simp [Eff.run] at hrun
 ·simp [Eff.run] at hrun
theorem op_indexS (hI : Inv fm B w G H) (hts : TsR (Rep fm G (okB B G H w) w) a.tmps ts) {t : TypeId} {x i : Operand} {px pi : PX}
  (ho : o.op = .index t x i) (hu : P.underlying t = some .string) (hx : TrX fm x px) (hi : TrX fm i pi)
  (hrun : (opE call (PX.ev ts) r (.indexS px pi)).run H = some out) : OpOk P o a w (Post fm B w G H out) := by
 have hv := ev_rep hts hx
 have hvi := ev_rep hts hi
 simp only [opE] at hrun
 split at hrun
 ·rename_i k n s e2 e1
  split at hrun
  ·rename_i b0
   obtain ⟨d, hd, rfl⟩ := run_quietO hrun
   simp only [Option.map_eq_some_iff] at hd
   obtain ⟨c, hc, rfl⟩ := hd
   rw [e2] at hvi; rw [e1] at hv
   have vi := hvi.inv_int
   have vx := hv.inv_str
   have hlt : n.toNat < s.length := (List.getElem?_eq_some_iff.1 hc).1
   have hg : (⟨s.toArray⟩ : ByteArray)[n.toNat]? = some c := by
    have hh : n.toNat < (⟨s.toArray⟩ : ByteArray).size := hlt
    rw [getElem?_pos (⟨s.toArray⟩ : ByteArray) n.toNat hh]
    rw [List.getElem?_eq_getElem hlt] at hc
    injection hc with hc
    rw [← hc]
    rfl
   refine opOk_val (v := .int .u8 (c.toNat : Int)) (w' := w) ?_ (post_quiet hI (.closed (.int _ _)))
   simp only [execOp, ho, vx, vi, Instr.index, Sem.run_bind, asIntOf, Sem.run_pure, run_underlying hu, Result.andThen_ok, if_pos b0, hg]
  ·simp [Eff.run] at hrun
 ·simp [Eff.run] at hrun
theorem op_extract (hI : Inv fm B w G H) (hts : TsR (Rep fm G (okB B G H w) w) a.tmps ts) {x : Operand} {px : PX} {i : Nat} (ho : o.op = .extract x i) (hx : TrX fm x px)
  (hrun : (opE call (PX.ev ts) r (.extract px i)).run H = some out) : OpOk P o a w (Post fm B w G H out) := by
 have hv := ev_rep hts hx
 simp only [opE] at hrun
 split at hrun
 ·rename_i ds e1
  obtain ⟨d, hd, rfl⟩ := run_quietO hrun
  rw [e1] at hv
  obtain ⟨vs, vx, hl, hr⟩ := hv.inv_tup
  have hj : i < vs.length := by rw [hl]; exact (List.getElem?_eq_some_iff.1 hd).1
  refine opOk_val (v := vs[i]) (w' := w) ?_ (post_quiet hI (hr i d _ hd (List.getElem?_eq_getElem hj)))
  simp [execOp, ho, vx, Instr.extract, hj]
 ·simp [Eff.run] at hrun
theorem len_fin (hI : Inv fm B w G H) {t : TypeId} {x : Operand} (ho : o.op = .call { callee := .builtin .len, args := #[x], argTypes := #[t] }) (n : Nat)
  (h : (Builtin.len_ #[t] o.type #[a.eval x]).run P w = .ok (goInt n) w) : OpOk P o a w (Post fm B w G H ⟨.int .i64 (n : Int), [], []⟩) := by
 refine opOk_val (v := .int .i64 (n : Int)) (w' := w) ?_ (post_quiet hI (.closed (.int _ _)))
 simp only [execOp, ho, resolve, Sem.run_bind, Sem.run_pure, Result.andThen_ok, invoke, builtin, List.map_toArray, List.map_cons, List.map_nil, h]
 rfl
theorem op_lenS (hI : Inv fm B w G H) (hts : TsR (Rep fm G (okB B G H w) w) a.tmps ts) {t : TypeId} {x : Operand} {px : PX} (ho : o.op = .call { callee := .builtin .len, args := #[x], argTypes := #[t] })
  (hu : P.underlying t = some .string) (hx : TrX fm x px) (hrun : (opE call (PX.ev ts) r (.lenS px)).run H = some out) : OpOk P o a w (Post fm B w G H out) := by
 have hv := ev_rep hts hx
 simp only [opE] at hrun
 split at hrun
 ·rename_i s e1
  obtain rfl := run_quiet hrun
  rw [e1] at hv
  refine len_fin hI ho s.length ?_
  rw [hv.inv_str]
  simp [Builtin.len_, run_underlying hu]
  rfl
 ·simp [Eff.run] at hrun
theorem op_len (hI : Inv fm B w G H) (hts : TsR (Rep fm G (okB B G H w) w) a.tmps ts) {t e : TypeId} {x : Operand} {px : PX} (ho : o.op = .call { callee := .builtin .len, args := #[x], argTypes := #[t] })
  (hu : P.underlying t = some (.slice e)) (hx : TrX fm x px) (hrun : (opE call (PX.ev ts) r (.len px)).run H = some out) : OpOk P o a w (Post fm B w G H out) := by
 have hv := ev_rep hts hx
 simp only [opE] at hrun
 split at hrun
 ·rename_i e1
  obtain rfl := run_quiet hrun
  rw [e1] at hv
  refine len_fin hI ho 0 ?_
  rw [hv.inv_nil]
  simp [Builtin.len_, run_underlying hu]
 ·rename_i s es e1
  obtain rfl := run_quiet hrun
  rw [e1] at hv
  refine len_fin hI ho es.length ?_
  rcases lst_range hv.inv_lst with ⟨rfl, A, c, vx⟩ | ⟨b, o', c, vx, _⟩ <;> rw [vx] <;> simp [Builtin.len_, run_underlying hu]
 ·rename_i id off len e1
  obtain rfl := run_quiet hrun
  rw [e1] at hv
  refine len_fin hI ho len ?_
  obtain ⟨b, cap, s, hg⟩ := GS.ne_fresh hv.ref_fresh
  obtain ⟨_, A, vx, _⟩ := hv.inv_ref hg
  rw [vx]
  simp [Builtin.len_, run_underlying hu]
 ·simp [Eff.run] at hrun
end
end Go.Pi
namespace Go.Pi
set_option linter.unusedVariables false
section
variable {P : Program} {fm : Nat → Nat} {w : World} {G : Gh} {ok : Nat → Prop}
def Fits (P : Program) (fm : Nat → Nat) (w : World) (G : Gh) (ok : Nat → Prop) (t : TypeId) (v : Value) (xs : List D) : Prop :=
 ∃ d, P.underlying t = some d ∧ ((isRowD d = true ∧ Rep fm G ok w v (.agg xs)) ∨ (isRowD d = false ∧ ∃ x, xs = [x] ∧ Rep fm G ok w v x))
theorem lay_und {m : Nat} {t : TypeId} {ks : List Nat} (h : lay P m t = some ks) : ∃ d, P.underlying t = some d ∧ (isRowD d = false → ks.length = 1) := by
 cases m with
 | zero => simp [lay] at h
 | succ m =>
  simp only [lay] at h
  split at h
  ·rename_i e; injection h with h; subst h; exact ⟨_, e, fun _ => rfl⟩
  ·rename_i k e; injection h with h; subst h; exact ⟨_, e, fun _ => rfl⟩
  ·rename_i e; injection h with h; subst h; exact ⟨_, e, fun _ => rfl⟩
  ·rename_i fs e; exact ⟨_, e, fun h => by cases h⟩
  ·rename_i n k e; exact ⟨_, e, fun h => by cases h⟩
  ·cases h
theorem part_fits {m : Nat} {e : TypeId} {ks : List Nat} {i : TypeInfo} (hl : lay P m e = some ks) (hi : P.info? e = some i) (hsz : i.size = ks.length) {vs : List Value} {cs : List D} (hc : CR (Rep fm G ok w) vs cs)
  {off : Nat} (hle : off + ks.length ≤ cs.length) : ∃ u, (part e vs.toArray off).run P w = .ok u w ∧ Fits P fm w G ok e u ((cs.drop off).take ks.length) := by
 obtain ⟨d, hd, h1⟩ := lay_und hl
 cases hr : isRowD d with
 | true =>
  obtain ⟨u, hp, hr'⟩ := part_ok (P := P) (w := w) (t := e) (ag := true) (n := ks.length) ⟨d, i, hd, hr, hi, hsz⟩ hc hle (d := .agg ((cs.drop off).take ks.length)) (by simp [shaped]) (fun vs ds h => rep_agg_of vs h)
  exact ⟨u, hp, d, hd, .inl ⟨hr, hr'⟩⟩
 | false =>
  have h1' := h1 hr
  have hlt : off < cs.length := by omega
  have hx : (cs.drop off).take ks.length = [cs[off]] := by
   rw [h1', List.drop_eq_getElem_cons hlt]; rfl
  obtain ⟨u, hp, hr'⟩ := part_ok (P := P) (w := w) (t := e) (ag := false) (n := ks.length) ⟨d, i, hd, hr, hi, hsz⟩ hc hle (d := cs[off]) (by rw [hx]; rfl) (fun vs ds h => rep_agg_of vs h)
  exact ⟨u, hp, d, hd, .inr ⟨hr, _, hx, hr'⟩⟩
theorem eqCs_split : ∀ (n : Nat) (xs ys : List D) {r : Bool}, n ≤ xs.length → n ≤ ys.length → eqCs xs ys = some r →
  ∃ b, eqCs (xs.take n) (ys.take n) = some b ∧ (if b then eqCs (xs.drop n) (ys.drop n) = some r else r = false)
 | 0, xs, ys, r, _, _, h => ⟨true, by simp [eqCs], by simpa using h⟩
 | n + 1, [], ys, r, h1, _, h => by simp at h1
 | n + 1, x :: xs, [], r, _, h2, h => by simp at h2
 | n + 1, x :: xs, y :: ys, r, h1, h2, h => by
  simp only [eqCs, Option.bind_eq_some_iff] at h
  obtain ⟨b, hb, h⟩ := h
  simp only [List.length_cons, Nat.add_le_add_iff_right] at h1 h2
  cases b with
  | false =>
   simp at h
   exact ⟨false, by simp [eqCs, hb], by simp [h]⟩
  | true =>
   simp only [if_true] at h
   obtain ⟨b', h3, h4⟩ := eqCs_split n xs ys h1 h2 h
   exact ⟨b', by simp [eqCs, hb, h3], by simpa using h4⟩
def EqOk (P : Program) (fm : Nat → Nat) (w : World) (G : Gh) (ok : Nat → Prop) (d : Nat) (t : TypeId) (ks : List Nat) : Prop :=
 ∀ (xs ys : List D) (vx vy : Value) (r : Bool), Fits P fm w G ok t vx xs → Fits P fm w G ok t vy ys → xs.map kindD = ks → ys.map kindD = ks → eqCs xs ys = some r → (Op.equalIn d t vx vy).run P w = .ok r w
theorem eqFields_ok {m d : Nat} (ih : ∀ t ks, lay P m t = some ks → EqOk P fm w G ok d t ks) {vx vy : List Value} {cx cy : List D} (hx : CR (Rep fm G ok w) vx cx) (hy : CR (Rep fm G ok w) vy cy) :
  ∀ (fs : List Field) (off : Nat) (ks : List Nat) (r : Bool), layF P (lay P m) fs off = some ks → (cx.drop off).map kindD = ks → (cy.drop off).map kindD = ks → eqCs (cx.drop off) (cy.drop off) = some r →
   (Op.eqFields d vx.toArray vy.toArray fs).run P w = .ok r w
 | [], off, ks, r, hl, h1, h2, h => by
  simp only [layF, Option.some.injEq] at hl
  subst hl
  rw [List.map_eq_nil_iff] at h1 h2
  rw [h1, h2] at h
  simp [eqCs] at h
  subst h
  simp [Op.eqFields]
 | f :: fs, off, ks, r, hl, h1, h2, h => by
  simp only [layF] at hl
  split at hl
  ·rename_i hc
   obtain ⟨hn, ho⟩ := hc
   simp only [Option.bind_eq_some_iff] at hl
   obtain ⟨k1, hk1, i, hi, hl⟩ := hl
   split at hl
   ·rename_i hsz
    obtain ⟨hsz, hpos⟩ := hsz
    simp only [Option.map_eq_some_iff] at hl
    obtain ⟨k2, hk2, rfl⟩ := hl
    have l1 : k1.length ≤ (cx.drop off).length := by have := congrArg List.length h1; simp at this ⊢; omega
    have l2 : k1.length ≤ (cy.drop off).length := by have := congrArg List.length h2; simp at this ⊢; omega
    obtain ⟨b, hb1, hb2⟩ := eqCs_split k1.length _ _ l1 l2 h
    have t1 : ((cx.drop off).take k1.length).map kindD = k1 := by rw [List.map_take, h1]; simp
    have t2 : ((cy.drop off).take k1.length).map kindD = k1 := by rw [List.map_take, h2]; simp
    have d1 : (cx.drop (off + k1.length)).map kindD = k2 := by rw [← List.drop_drop, List.map_drop, h1]; simp
    have d2 : (cy.drop (off + k1.length)).map kindD = k2 := by rw [← List.drop_drop, List.map_drop, h2]; simp
    have e1 : off + k1.length ≤ cx.length := by simp only [List.length_drop] at l1; omega
    have e2 : off + k1.length ≤ cy.length := by simp only [List.length_drop] at l2; omega
    obtain ⟨u, hu, fu⟩ := part_fits hk1 hi hsz hx e1
    obtain ⟨v, hv, fv⟩ := part_fits hk1 hi hsz hy e2
    have hq := ih _ _ hk1 _ _ _ _ _ fu fv t1 t2 hb1
    rw [Op.eqFields, if_pos hn, ho]
    simp only [Sem.run_bind, hu, hv, hq, Result.andThen_ok]
    cases b with
    | false =>
     simp only [Bool.false_eq_true, if_false] at hb2
     subst hb2
     rfl
    | true =>
     simp only [if_true, List.drop_drop] at hb2
     exact eqFields_ok ih hx hy fs (off + k1.length) k2 r hk2 d1 d2 hb2
   ·cases hl
  ·cases hl
theorem eqItems_ok {m d : Nat} {e : TypeId} {i : TypeInfo} {ks : List Nat} (hk : lay P m e = some ks) (hi : P.info? e = some i) (hsz : i.size = ks.length) (hpos : 0 < ks.length) (ih : EqOk P fm w G ok d e ks)
  {vx vy : List Value} {cx cy : List D} (hx : CR (Rep fm G ok w) vx cx) (hy : CR (Rep fm G ok w) vy cy) : ∀ (n j : Nat) (r : Bool),
   (cx.drop (j * ks.length)).map kindD = (List.replicate n ks).flatten → (cy.drop (j * ks.length)).map kindD = (List.replicate n ks).flatten → eqCs (cx.drop (j * ks.length)) (cy.drop (j * ks.length)) = some r →
   (Op.eqItems d e ks.length vx.toArray vy.toArray (List.range' j n)).run P w = .ok r w
 | 0, j, r, h1, h2, h => by
  simp only [List.replicate_zero, List.flatten_nil, List.map_eq_nil_iff] at h1 h2
  rw [h1, h2] at h
  simp [eqCs] at h
  subst h
  simp [Op.eqItems]
 | n + 1, j, r, h1, h2, h => by
  rw [List.replicate_succ, List.flatten_cons] at h1 h2
  have l1 : ks.length ≤ (cx.drop (j * ks.length)).length := by have := congrArg List.length h1; simp only [List.length_map, List.length_append] at this; omega
  have l2 : ks.length ≤ (cy.drop (j * ks.length)).length := by have := congrArg List.length h2; simp only [List.length_map, List.length_append] at this; omega
  obtain ⟨b, hb1, hb2⟩ := eqCs_split ks.length _ _ l1 l2 h
  have t1 : ((cx.drop (j * ks.length)).take ks.length).map kindD = ks := by rw [List.map_take, h1]; simp
  have t2 : ((cy.drop (j * ks.length)).take ks.length).map kindD = ks := by rw [List.map_take, h2]; simp
  have d1 : (cx.drop ((j + 1) * ks.length)).map kindD = (List.replicate n ks).flatten := by rw [Nat.add_mul, Nat.one_mul, ← List.drop_drop, List.map_drop, h1]; simp
  have d2 : (cy.drop ((j + 1) * ks.length)).map kindD = (List.replicate n ks).flatten := by rw [Nat.add_mul, Nat.one_mul, ← List.drop_drop, List.map_drop, h2]; simp
  have e1 : j * ks.length + ks.length ≤ cx.length := by simp only [List.length_drop] at l1; omega
  have e2 : j * ks.length + ks.length ≤ cy.length := by simp only [List.length_drop] at l2; omega
  obtain ⟨u, hu, fu⟩ := part_fits hk hi hsz hx e1
  obtain ⟨v, hv, fv⟩ := part_fits hk hi hsz hy e2
  have hq := ih _ _ _ _ _ fu fv t1 t2 hb1
  rw [List.range'_succ, Op.eqItems]
  simp only [Sem.run_bind, hu, hv, hq, Result.andThen_ok]
  cases b with
  | false =>
   simp only [Bool.false_eq_true, if_false] at hb2
   subst hb2
   rfl
  | true =>
   simp only [if_true, List.drop_drop] at hb2
   refine eqItems_ok hk hi hsz hpos ih hx hy n (j + 1) r d1 d2 ?_
   rw [Nat.add_mul, Nat.one_mul]
   exact hb2
theorem eqCs_single {x y : D} {r : Bool} (h : eqCs [x] [y] = some r) : eqC x y = some r := by
 simp only [eqCs, Option.bind_eq_some_iff] at h
 obtain ⟨b, hb, h⟩ := h
 cases b <;> simp at h <;> subst h <;> exact hb
theorem eq_lay : ∀ (m d : Nat) (t : TypeId) (ks : List Nat), m ≤ d → lay P m t = some ks → EqOk P fm w G ok d t ks
 | 0, d, t, ks, _, h => by simp [lay] at h
 | m + 1, 0, t, ks, hle, _ => by omega
 | m + 1, d + 1, t, ks, hle, h => by
  have ih : ∀ t ks, lay P m t = some ks → EqOk P fm w G ok d t ks := fun t ks h => eq_lay m d t ks (by omega) h
  intro xs ys vx vy r fx fy h1 h2 hr
  obtain ⟨dx, hdx, gx⟩ := fx
  obtain ⟨dy, hdy, gy⟩ := fy
  rw [hdx] at hdy
  injection hdy with hdy
  subst hdy
  simp only [lay] at h
  split at h
  ·rename_i e
   rw [hdx] at e; injection e with e; subst e
   injection h with h; subst h
   rcases gx with ⟨gx, _⟩ | ⟨_, x, rfl, gx⟩
   ·cases gx
   rcases gy with ⟨gy, _⟩ | ⟨_, y, rfl, gy⟩
   ·cases gy
   have hq := eqCs_single hr
   cases x <;> simp [kindD] at h1
   cases y <;> simp [kindD] at h2
   rename_i a b
   simp only [eqC, Option.some.injEq] at hq
   subst hq
   rw [gx.inv_bool, gy.inv_bool]
   exact run_equalIn_bool w d t a b hdx
  ·rename_i k e
   rw [hdx] at e; injection e with e; subst e
   injection h with h; subst h
   rcases gx with ⟨gx, _⟩ | ⟨_, x, rfl, gx⟩
   ·cases gx
   rcases gy with ⟨gy, _⟩ | ⟨_, y, rfl, gy⟩
   ·cases gy
   have hq := eqCs_single hr
   cases x <;> simp [kindD] at h1
   cases y <;> simp [kindD] at h2
   rename_i k1 a k2 b
   simp only [eqC] at hq
   split at hq
   ·rename_i hk
    subst hk
    injection hq with hq
    subst hq
    rw [gx.inv_int, gy.inv_int]
    exact run_equalIn_int w d t k1 k a b hdx
   ·cases hq
  ·rename_i e
   rw [hdx] at e; injection e with e; subst e
   injection h with h; subst h
   rcases gx with ⟨gx, _⟩ | ⟨_, x, rfl, gx⟩
   ·cases gx
   rcases gy with ⟨gy, _⟩ | ⟨_, y, rfl, gy⟩
   ·cases gy
   have hq := eqCs_single hr
   cases x <;> simp [kindD] at h1
   cases y <;> simp [kindD] at h2
   rename_i a b
   simp only [eqC, Option.some.injEq] at hq
   subst hq
   rw [gx.inv_str, gy.inv_str]
   rw [run_equalIn_string w d t _ _ hdx]
   simp [ByteArray.toList_eq]
  ·rename_i fs e
   rw [hdx] at e; injection e with e; subst e
   split at h
   ·rename_i hst
    rcases gx with ⟨_, gx⟩ | ⟨gx, _⟩
    rotate_left
    ·cases gx
    rcases gy with ⟨_, gy⟩ | ⟨gy, _⟩
    rotate_left
    ·cases gy
    obtain ⟨ux, rfl, cx⟩ := rep_agg_CR gx
    obtain ⟨uy, rfl, cy⟩ := rep_agg_CR gy
    have hf : P.fieldsOf t = fs := by simp [Program.fieldsOf, hdx]
    rw [run_equalIn_struct w d t _ _ (by rw [hf]; exact hdx) hst, hf]
    exact eqFields_ok ih cx cy fs.toList 0 ks r h (by simpa using h1) (by simpa using h2) (by simpa using hr)
   ·cases h
  ·rename_i n e he
   rw [hdx] at he; injection he with he; subst he
   simp only [Option.bind_eq_some_iff] at h
   obtain ⟨k1, hk1, i, hi, h⟩ := h
   split at h
   ·rename_i hc
    obtain ⟨hsz, hpos⟩ := hc
    injection h with h
    subst h
    rcases gx with ⟨_, gx⟩ | ⟨gx, _⟩
    rotate_left
    ·cases gx
    rcases gy with ⟨_, gy⟩ | ⟨gy, _⟩
    rotate_left
    ·cases gy
    obtain ⟨ux, rfl, cx⟩ := rep_agg_CR gx
    obtain ⟨uy, rfl, cy⟩ := rep_agg_CR gy
    rw [run_equalIn_array w d _ _ hdx hi, show P.cellsOf e = k1.length by simp [Program.cellsOf, hi, hsz], List.range_eq_range']
    exact eqItems_ok hk1 hi hsz hpos (ih _ _ hk1) cx cy n 0 r (by simpa using h1) (by simpa using h2) (by simpa using hr)
   ·cases h
  ·cases h
variable {B : Base} {H : Heap} {o : Oper} {a : Act} {ts : List D} {call : CallF} {r : Nat} {out : Out}
theorem op_eqA (hI : Inv fm B w G H) (hts : TsR (Rep fm G (okB B G H w) w) a.tmps ts) {neg : Bool} {m : Nat} {t u : TypeId} {ks : List Nat} {td : TypeDesc} {x y : Operand} {px py : PX}
  (ho : o.op = .binOp (if neg then .neq else .eql) t x y u) (ht : P.underlying t = some td) (hag : isRowD td = true) (hg : P.eqGuardType P.depth t = false) (hl : lay P m t = some ks) (hm : m ≤ 1000)
  (hx : TrX fm x px) (hy : TrX fm y py) (hrun : (opE call (PX.ev ts) r (.eqA neg ks px py)).run H = some out) : OpOk P o a w (Post fm B w G H out) := by
 have hvx := ev_rep hts hx
 have hvy := ev_rep hts hy
 simp only [opE] at hrun
 split at hrun
 ·rename_i xs ys e1 e2
  split at hrun
  ·rename_i hk
   obtain ⟨d, hd, rfl⟩ := run_quietO hrun
   simp only [Option.map_eq_some_iff] at hd
   obtain ⟨t', hn, rfl⟩ := hd
   rw [e1] at hvx; rw [e2] at hvy
   obtain ⟨ux, vx, cx⟩ := rep_agg_CR hvx
   obtain ⟨uy, vy, cy⟩ := rep_agg_CR hvy
   have he : (Op.equal t (.agg ux.toArray) (.agg uy.toArray)).run P w = .ok t' w := by
    rw [vx] at hvx; rw [vy] at hvy
    exact eq_lay m Op.maxDepth t ks (Nat.le_trans hm (by decide)) hl xs ys _ _ t' ⟨td, ht, .inl ⟨hag, hvx⟩⟩ ⟨td, ht, .inl ⟨hag, hvy⟩⟩ hk.1 hk.2 hn
   refine opOk_val (v := .bool (if neg then !t' else t')) (w' := w) ?_ (post_quiet hI (.closed (.bool _)))
   cases neg <;> simp only [Bool.false_eq_true, if_true, if_false] at ho ⊢ <;>
    simp [execOp, ho, Sem.run_bind, vx, vy, eqGuard, hg, binOp, he]
  ·simp [Eff.run] at hrun
 ·simp [Eff.run] at hrun
theorem op_toFlt (hI : Inv fm B w G H) (hts : TsR (Rep fm G (okB B G H w) w) a.tmps ts) {s d : TypeId} {x : Operand} {px : PX} (ho : o.op = .convert s d x)
  (hs : (P.underlying s).isSome = true) (hd : P.underlying d = some (.float .f64)) (hx : TrX fm x px) (hrun : (opE call (PX.ev ts) r (.conv .toFlt px)).run H = some out) : OpOk P o a w (Post fm B w G H out) := by
 have hv := ev_rep hts hx
 simp only [opE] at hrun
 split at hrun
 ·rename_i k' n e1
  obtain rfl := run_quiet hrun
  rw [e1] at hv
  have vx := hv.inv_int
  obtain ⟨sd, hsd⟩ := Option.isSome_iff_exists.1 hs
  refine opOk_val (v := .float .f64 (FloatKind.f64.nearest n)) (w' := w) ?_ (post_quiet hI (.closed (.flt (some _) _ rfl)))
  simp [execOp, ho, vx, convert, run_underlying hsd, run_underlying hd, Conv.intToFloat]
 ·simp [Eff.run] at hrun
theorem op_bits (hI : Inv fm B w G H) (hts : TsR (Rep fm G (okB B G H w) w) a.tmps ts) {f : Nat} {x : Operand} {px : PX} {ats : Array TypeId} (ho : o.op = .call { callee := .value (.func f), args := #[x], argTypes := ats })
  (hf : ExtOk P f true) (hx : TrX fm x px) (hrun : (opE call (PX.ev ts) r (.bits px)).run H = some out) : OpOk P o a w (Post fm B w G H out) := by
 have hv := ev_rep hts hx
 simp only [opE] at hrun
 split at hrun
 ·rename_i b e1
  obtain rfl := run_quiet hrun
  rw [e1] at hv
  obtain ⟨b, vx, hm⟩ := hv.inv_flt
  cases hm
  simp only [ExtOk, if_true] at hf
  refine opOk_val (v := .int .u64 (b : Int)) (w' := w) ?_ (post_quiet hI (.closed (.int _ _)))
  have he : (execOp a.eval o).run P w = (callFunc f #[a.eval x]).run P w := by simp [execOp, ho, resolve, Act.eval, Deferred.ofValue, invoke]
  rw [he, vx]
  exact hf b w
 ·rename_i e1
  obtain rfl := run_quiet hrun
  rw [e1] at hv
  obtain ⟨b, vx, _⟩ := hv.inv_flt
  simp only [ExtOk, if_true] at hf
  refine opOk_val (v := .int .u64 (b : Int)) (w' := w) ?_ (post_quiet hI (.closed (.undef _)))
  have he : (execOp a.eval o).run P w = (callFunc f #[a.eval x]).run P w := by simp [execOp, ho, resolve, Act.eval, Deferred.ofValue, invoke]
  rw [he, vx]
  exact hf b w
 ·simp [Eff.run] at hrun
theorem op_ofBits (hI : Inv fm B w G H) (hts : TsR (Rep fm G (okB B G H w) w) a.tmps ts) {f : Nat} {x : Operand} {px : PX} {ats : Array TypeId} (ho : o.op = .call { callee := .value (.func f), args := #[x], argTypes := ats })
  (hf : ExtOk P f false) (hx : TrX fm x px) (hrun : (opE call (PX.ev ts) r (.ofBits px)).run H = some out) : OpOk P o a w (Post fm B w G H out) := by
 have hv := ev_rep hts hx
 simp only [opE] at hrun
 split at hrun
 ·rename_i n e1
  obtain rfl := run_quiet hrun
  rw [e1] at hv
  have vx := hv.inv_int
  simp only [ExtOk, Bool.false_eq_true, if_false] at hf
  refine opOk_val (v := .float .f64 n.toNat) (w' := w) ?_ (post_quiet hI (.closed (.flt (some _) _ rfl)))
  have he : (execOp a.eval o).run P w = (callFunc f #[a.eval x]).run P w := by simp [execOp, ho, resolve, Act.eval, Deferred.ofValue, invoke]
  rw [he, vx]
  exact hf n w
 ·simp [Eff.run] at hrun
theorem minmax_fold (mx : Bool) : ∀ (vs : List Value) (ds : List D) (k : IntKind) (m n : Int), vs.length = ds.length → (∀ (j : Nat) (v : Value) (d : D), vs[j]? = some v → ds[j]? = some d → Rep fm G ok w v d) →
  minmaxI mx m ds k = some n → (vs.foldlM (if mx then Builtin.max2 else Builtin.min2) (.int k m)).run P w = .ok (.int k n) w
 | [], [], k, m, n, _, _, h => by simp [minmaxI] at h; subst h; simp
 | v :: vs, [], k, m, n, hl, _, h => by simp at hl
 | [], d :: ds, k, m, n, hl, _, h => by simp at hl
 | v :: vs, d :: ds, k, m, n, hl, hr, h => by
  have hv := hr 0 v d rfl rfl
  cases d <;> simp only [minmaxI, reduceCtorEq] at h
  rename_i k' b
  split at h
  ·rename_i hk
   subst hk
   rw [hv.inv_int]
   have := minmax_fold mx vs ds k _ n (by simpa using hl) (fun j v d h1 h2 => hr (j + 1) v d h1 h2) h
   simp only [List.foldlM_cons, Sem.run_bind]
   cases mx <;> simp only [Bool.false_eq_true, if_true, if_false] at this ⊢ <;> simpa [Builtin.max2, Builtin.min2] using this
  ·cases h
theorem trXs_vals (hts : TsR (Rep fm G (okB B G H w) w) a.tmps ts) : ∀ {xs : List Operand} {qs : List PX}, TrXs fm xs qs →
  (xs.map a.eval).length = (qs.map (PX.ev ts)).length ∧ ∀ (j : Nat) (v : Value) (q : D), (xs.map a.eval)[j]? = some v → (qs.map (PX.ev ts))[j]? = some q → Rep fm G (okB B G H w) w v q
 | [], [], .nil => ⟨rfl, by simp⟩
 | x :: xs, px :: qs, .cons hx h => by
  obtain ⟨h1, h2⟩ := trXs_vals hts h
  refine ⟨by simpa using h1, fun j v q hv hq => ?_⟩
  cases j with
  | zero =>
   simp at hv hq
   subst hv; subst hq
   exact ev_rep hts hx
  | succ j => exact h2 j v q (by simpa using hv) (by simpa using hq)
theorem op_minmax (hI : Inv fm B w G H) (hts : TsR (Rep fm G (okB B G H w) w) a.tmps ts) {mx : Bool} {x : Operand} {xs : List Operand} {px : PX} {ps : List PX} {ats : Array TypeId}
  (ho : o.op = .call { callee := .builtin (if mx then .max else .min), args := (x :: xs).toArray, argTypes := ats })
  (hx : TrX fm x px) (hxs : TrXs fm xs ps) (hrun : (opE call (PX.ev ts) r (.minmax mx px ps)).run H = some out) : OpOk P o a w (Post fm B w G H out) := by
 have hv := ev_rep hts hx
 simp only [opE] at hrun
 split at hrun
 ·rename_i k m e1
  obtain ⟨d, hd, rfl⟩ := run_quietO hrun
  simp only [Option.map_eq_some_iff] at hd
  obtain ⟨n, hn, rfl⟩ := hd
  rw [e1] at hv
  have vx := hv.inv_int
  obtain ⟨hl, hr⟩ := trXs_vals hts hxs
  have hfold := minmax_fold (P := P) (w := w) mx _ _ k m n hl hr hn
  refine opOk_val (v := .int k n) (w' := w) ?_ (post_quiet hI (.closed (.int _ _)))
  cases mx <;> simp only [Bool.false_eq_true, if_true, if_false] at ho hfold <;>
   simp [execOp, ho, resolve, invoke, builtin, Builtin.max_, Builtin.min_, vx, hfold]
 ·simp [Eff.run] at hrun
end
end Go.Pi
namespace Go.Pi
set_option linter.unusedVariables false
section
variable {P : Program} {fm : Nat → Nat} {B : Base} {w : World} {G : Gh} {H : Heap} {o : Oper} {a : Act} {ts : List D} {call : CallF} {r : Nat} {out : Out}
structure LS (rep : Value → D → Prop) (sz : Nat) (c : List Value) (es : List (List D)) : Prop where
 size : c.length = es.length * sz
 each : ∀ e ∈ es, e.length = sz
 one : ∀ v ∈ c, v.oneCell' = true
 cell : ∀ (i j : Nat) (e : List D) (d : D), es[i]? = some e → e[j]? = some d → ∃ u, c[i * sz + j]? = some u ∧ u.oneCell' = true ∧ rep u d
theorem LS.append {rep : Value → D → Prop} {sz : Nat} {c c' : List Value} {es es' : List (List D)} (h : LS rep sz c es) (h' : LS rep sz c' es') : LS rep sz (c ++ c') (es ++ es') := by
 refine ⟨by simp [h.size, h'.size, Nat.add_mul], fun e he => ?_, fun v hv => ?_, fun i j e d he hd => ?_⟩
 ·rcases List.mem_append.1 he with he | he
  ·exact h.each e he
  ·exact h'.each e he
 ·rcases List.mem_append.1 hv with hv | hv
  ·exact h.one v hv
  ·exact h'.one v hv
 ·rw [List.getElem?_append] at he
  split at he
  ·rename_i hi
   obtain ⟨u, a1, a2, a3⟩ := h.cell i j e d he hd
   have hj : j < sz := by rw [← h.each e (List.mem_of_getElem? he)]; exact (List.getElem?_eq_some_iff.1 hd).1
   have hb : i * sz + j < c.length := by
    rw [h.size]
    have : (i + 1) * sz ≤ es.length * sz := Nat.mul_le_mul_right _ (by omega)
    rw [Nat.succ_mul] at this
    omega
   exact ⟨u, by rw [List.getElem?_append_left hb]; exact a1, a2, a3⟩
  ·rename_i hi
   obtain ⟨u, a1, a2, a3⟩ := h'.cell _ j e d he hd
   obtain ⟨k, rfl⟩ : ∃ k, i = es.length + k := ⟨i - es.length, by omega⟩
   rw [show es.length + k - es.length = k by omega] at a1
   refine ⟨u, ?_, a2, a3⟩
   rw [List.getElem?_append_right (by rw [h.size, Nat.add_mul]; omega), h.size, Nat.add_mul, show es.length * sz + k * sz + j - es.length * sz = k * sz + j by omega]
   exact a1
theorem source_ok (hI : Inv fm B w G H) {sz : Nat} {v : Value} {d : D} (hv : Rep fm G (okB B G H w) w v d) {tx : TypeId} (hk : (∃ e', P.underlying tx = some (.slice e')) ∨ P.underlying tx = some .string)
  {src : List (List D)} (h : (source sz d).run H = some src) : ∃ news, Src P sz tx v src.length news w ∧ LS (Rep fm G (okB B G H w) w) sz news src := by
 have mkS : ∀ (A : Addr) (c : Nat) (news : List Value), LS (Rep fm G (okB B G H w) w) sz news src → (∀ j u, news[j]? = some u → w.cell? (A.add j) = some u) → Src P sz tx (.slice (some A) src.length c) src.length news w := by
  intro A c news hl hc
  exact ⟨hk, fun _ => rfl, run_firstCells_some w sz _ A _ c news hl.size hc, run_firstCells_some w.drew sz _ A _ c news hl.size (by simpa using hc), hl.size, hl.one⟩
 have mkN : ∀ (c : Nat), Src P sz tx (.slice none 0 c) 0 [] w := fun c =>
  ⟨hk, fun _ => rfl, run_firstCells_none w sz 0 0 c, run_firstCells_none w.drew sz 0 0 c, by simp, fun _ h => by cases h⟩
 have ls0 : LS (Rep fm G (okB B G H w) w) sz [] [] := ⟨by simp, by simp, by simp, by simp⟩
 have mkE : ∀ (A : Option Addr) (c : Nat), src = [] → ∃ news, Src P sz tx (.slice A 0 c) src.length news w ∧ LS (Rep fm G (okB B G H w) w) sz news src := by
  rintro A c rfl
  cases A with
  | none => exact ⟨[], mkN c, ls0⟩
  | some A => exact ⟨[], mkS A c [] ls0 (by simp), ls0⟩
 cases d <;> simp only [source, Eff.run, reduceCtorEq] at h
 case nil =>
  injection h with h
  subst h
  rw [hv.inv_nil]
  exact mkE none 0 rfl
 case lst s es =>
  split at h
  ·rename_i hs
   simp only [Eff.run, Option.some.injEq] at h
   subst h
   have hc := hv.inv_lst
   rcases lst_inv hc with ⟨rfl, A, c, rfl⟩ | ⟨b, o', c, u, rfl, hlc, hok, hl, hcell, hone, hrep⟩
   ·exact mkE A c rfl
   ·by_cases he : es = []
    ·subst he; exact mkE _ _ rfl
    ·have hss : s = sz := by
      rcases hs with hs | hs
      ·exact hs
      ·exact absurd (by simpa using hs) he
     subst hss
     have hpos : ∀ k, k < es.length * s → k / s < es.length ∧ k % s < s := fun k hk => by
      have h0 : 0 < s := by
       rcases Nat.eq_zero_or_pos s with h | h
       ·subst h; simp at hk
       ·exact h
      exact ⟨(Nat.div_lt_iff_lt_mul h0).2 hk, Nat.mod_lt _ h0⟩
     have hget : ∀ k, k < es.length * s → ∃ (e : List D) (d : D), es[k / s]? = some e ∧ e[k % s]? = some d := fun k hk => by
      obtain ⟨h1, h2⟩ := hpos k hk
      have hle : es[k / s].length = s := hl _ (List.getElem_mem h1)
      exact ⟨es[k / s], es[k / s][k % s]'(by omega), List.getElem?_eq_getElem h1, List.getElem?_eq_getElem _⟩
     have hls : LS (Rep fm G (okB B G H w) w) s ((List.range (es.length * s)).map fun k => u (k / s) (k % s)) es := by
      refine ⟨by simp, hl, fun v hv => ?_, fun i j e d he hd => ?_⟩
      ·simp only [List.mem_map, List.mem_range] at hv
       obtain ⟨k, hk, rfl⟩ := hv
       obtain ⟨e, d, h1, h2⟩ := hget k hk
       exact hone _ _ e d h1 h2
      ·have hj : j < s := by rw [← hl e (List.mem_of_getElem? he)]; exact (List.getElem?_eq_some_iff.1 hd).1
       have hi : i < es.length := (List.getElem?_eq_some_iff.1 he).1
       have hb : i * s + j < es.length * s := by
        have : (i + 1) * s ≤ es.length * s := Nat.mul_le_mul_right _ (by omega)
        rw [Nat.succ_mul] at this
        omega
       have e1 : (i * s + j) / s = i := by rw [Nat.mul_comm, Nat.mul_add_div (by omega), Nat.div_eq_of_lt hj]; rfl
       have e2 : (i * s + j) % s = j := by rw [Nat.mul_comm, Nat.mul_add_mod, Nat.mod_eq_of_lt hj]
       exact ⟨u i j, by simp [hb, e1, e2], hone i j e d he hd, .closed (hrep i j e d he hd)⟩
     refine ⟨_, mkS _ c _ hls (fun j v hj => ?_), hls⟩
     have hjl : j < es.length * s := by
      have := (List.getElem?_eq_some_iff.1 hj).1
      simpa using this
     simp [hjl] at hj
     subst hj
     obtain ⟨e, d, h1, h2⟩ := hget j hjl
     rw [add_mk]
     have := hcell _ _ e d h1 h2
     rwa [Nat.div_add_mod' j s] at this
  ·simp [Eff.run] at h
 case ref id off len =>
  split at h
  ·rename_i s es lv g1
   split at h
   ·rename_i hs
    obtain ⟨rfl, hle⟩ := hs
    simp only [Eff.run, Option.some.injEq] at h
    subst h
    obtain ⟨b, cap, k1, k2, k3⟩ := hI.rows id s es lv g1
    obtain ⟨r1, A, rfl, r2⟩ := hv.inv_ref k1
    obtain ⟨cs, c1, c2, c3, c4⟩ := k3.ranges hle
    have hlen : ((es.drop off).take len).length = len := by simp; omega
    by_cases h0 : len = 0
    ·subst h0
     have := mkE (some A) (cap - off) (by simp)
     exact this
    ·have hA : A = ⟨b, off * s, none⟩ := by
      rcases r2 with h | h
      ·exact h
      ·have := k3.len; omega
     subst hA
     have hls : LS (Rep fm G (okB B G H w) w) s cs ((es.drop off).take len) :=
      ⟨by rw [hlen]; exact c1, fun e he => k3.each e (List.mem_of_mem_drop (List.mem_of_mem_take he)), c3, c4⟩
     have := mkS ⟨b, off * s, none⟩ (cap - off) cs hls (fun j v hj => by rw [add_mk]; exact c2 j v hj)
     rw [hlen] at this ⊢
     exact ⟨cs, this, hls⟩
   ·simp [Eff.run] at h
  ·cases h
 case str s =>
  split at h
  ·rename_i hs
   subst hs
   simp only [Eff.run, Option.some.injEq] at h
   subst h
   rw [hv.inv_str]
   have hlen : (ofBytes s).length = s.length := by simp [ofBytes]
   have hbc : byteCells ⟨s.toArray⟩ = s.map fun b => Value.int .u8 (b.toNat : Int) := by simp [byteCells]
   refine ⟨byteCells ⟨s.toArray⟩, ?_, ?_⟩
   ·have hsz : (⟨s.toArray⟩ : ByteArray).size = s.length := rfl
    have hf := fun w' => firstCells_string (P := P) ⟨s.toArray⟩ w'
    rw [hlen]
    rw [hsz] at hf
    exact ⟨hk, fun _ => rfl, hf w, hf w.drew, by rw [byteCells_length, Nat.mul_one]; rfl, fun u hu => by
     rw [hbc] at hu
     obtain ⟨_, _, rfl⟩ := List.mem_map.1 hu
     rfl⟩
   ·refine ⟨by rw [hbc]; simp [ofBytes], fun e he => ?_, fun v hv => ?_, fun i j e d he hd => ?_⟩
    ·simp only [ofBytes, List.mem_map] at he
     obtain ⟨b, _, rfl⟩ := he
     rfl
    ·rw [hbc] at hv
     obtain ⟨_, _, rfl⟩ := List.mem_map.1 hv
     rfl
    ·simp only [ofBytes, List.getElem?_map, Option.map_eq_some_iff] at he
     obtain ⟨b, hb, rfl⟩ := he
     cases j with
     | zero =>
      simp at hd
      subst hd
      exact ⟨_, by rw [hbc]; simp [hb], rfl, .closed (.int _ _)⟩
     | succ j => simp at hd
  ·simp [Eff.run] at h
theorem zeroCells_size (z : Array Value) (n : Nat) : (Builtin.zeroCells z n).size = n * z.size := by simp [Builtin.zeroCells]
theorem LS.block {rep : Value → D → Prop} {sz : Nat} {c : List Value} {es : List (List D)} (h : LS rep sz c es) (zs : Array Value) {cap : Nat} (hz : zs.size = (cap - es.length) * sz) (hle : es.length ≤ cap) :
  (c.toArray ++ zs).size = cap * sz ∧ ∀ (i j : Nat) (e : List D) (d : D), es[i]? = some e → e[j]? = some d → ∃ u, (c.toArray ++ zs)[i * sz + j]? = some u ∧ u.oneCell' = true ∧ rep u d := by
 refine ⟨?_, fun i j e d he hd => ?_⟩
 ·rw [Array.size_append, hz, List.size_toArray, h.size, ← Nat.add_mul]
  congr 1; omega
 ·obtain ⟨u, a1, a2, a3⟩ := h.cell i j e d he hd
  refine ⟨u, ?_, a2, a3⟩
  have hl : i * sz + j < c.length := (List.getElem?_eq_some_iff.1 a1).1
  rw [Array.getElem?_append_left (by simpa using hl)]
  simpa using a1
theorem take_LS (hI : Inv fm B w G H) {s : Nat} {es : List (List D)} {b cap : Nat} (k3 : RowOk (Rep fm G (okB B G H w) w) w s es b cap) {len : Nat} (hle : len ≤ es.length) :
  ∃ cs, LS (Rep fm G (okB B G H w) w) s cs (es.take len) ∧ w.rangeAt b 0 cs ∧ cs.length = len * s := by
 obtain ⟨cs, c1, c2, c3, c4⟩ := k3.ranges (off := 0) (len := len) (by omega)
 refine ⟨cs, ⟨by rw [c1, List.length_take, Nat.min_eq_left hle], fun e he => k3.each e (List.mem_of_mem_take he), c3, fun i j e d he hd => c4 i j e d (by simpa using he) hd⟩, by simpa using c2, c1⟩
theorem op_append (hI : Inv fm B w G H) (hts : TsR (Rep fm G (okB B G H w) w) a.tmps ts) {t u e : TypeId} {i : TypeInfo} {z : Value} {sz bytes : Nat} {x y : Operand} {px py : PX}
  (ho : o.op = .call { callee := .builtin .append, args := #[x, y], argTypes := #[t, u] }) (hu : P.underlying t = some (.slice e)) (hv : (∃ e', P.underlying u = some (.slice e')) ∨ P.underlying u = some .string)
  (hi : P.info? e = some i) (hz : i.zero = some z) (hsz : i.size = sz) (hzl : z.cells.size = sz) (hby : i.bytes = bytes) (h0 : 0 < sz) (hx : TrX fm x px) (hy : TrX fm y py)
  (hrun : (opE call (PX.ev ts) r (.append sz bytes px py)).run H = some out) : OpOk P o a w (Post fm B w G H out) := by
 have hvx := ev_rep hts hx
 have hvy := ev_rep hts hy
 obtain ⟨src, h1, h2⟩ := run_bind' (by exact hrun)
 obtain ⟨news, hS, hL⟩ := source_ok (P := P) hI hvy hv h1
 have fin : ∀ v w', (Builtin.append_ #[t, u] o.type #[a.eval x, a.eval y]).run P w = .ok v w' → Post fm B w G H out v w' → OpOk P o a w (Post fm B w G H out) := by
  intro v w' hr hp
  refine opOk_val (v := v) (w' := w') ?_ hp
  simp only [execOp, ho, resolve, Sem.run_bind, Sem.run_pure, Result.andThen_ok, invoke, builtin, List.map_toArray, List.map_cons, List.map_nil, hr]
 by_cases hemp : src.isEmpty
 ·rw [if_pos hemp] at h2
  have hs0 : src = [] := by simpa using hemp
  subst hs0
  have hn0 : news = [] := List.eq_nil_of_length_eq_zero (by simpa using hL.size)
  subst hn0
  have nothing : ∀ (A : Option Addr) (l c : Nat), a.eval x = .slice A l c → l ≤ c → (Builtin.append_ #[t, u] o.type #[a.eval x, a.eval y]).run P w = .ok (.slice A l c) w := by
   intro A l c he hl
   have hc : (Builtin.firstCells i.size 0 (a.eval y)).run P w = .ok #[] w := by rw [hsz]; exact hS.cells
   have hlen : (Builtin.lenOf (a.eval y)).run P w = .ok 0 w := hS.len w
   rw [he]
   rcases hv with ⟨e', hk⟩ | hk <;> cases A <;> simp [Builtin.append_, run_underlying hu, run_underlying hk, sizeOf, typeInfo, hi, hlen, hl, hc, storeCells]
  split at h2
  ·rename_i e1
   obtain rfl := run_quiet h2
   rw [e1] at hvx
   exact fin _ _ (nothing _ _ _ hvx.inv_nil (Nat.le_refl _)) (post_quiet hI (.closed .nil))
  ·rename_i id off len e1
   obtain rfl := run_quiet h2
   rw [e1] at hvx
   obtain ⟨b, cap, s, hg⟩ := GS.ne_fresh hvx.ref_fresh
   obtain ⟨r1, A, vx, _⟩ := hvx.inv_ref hg
   exact fin _ _ (nothing _ _ _ vx (by omega)) (post_quiet hI (by rw [← vx]; exact hvx))
  ·rename_i s es e1
   obtain rfl := run_quiet h2
   rw [e1] at hvx
   rcases lst_range hvx.inv_lst with ⟨rfl, A, c, vx⟩ | ⟨b, o', c, vx, hlc, _⟩
   ·exact fin _ _ (nothing _ _ _ vx (Nat.zero_le _)) (post_quiet hI (by rw [← vx]; exact hvx))
   ·exact fin _ _ (nothing _ _ _ vx hlc) (post_quiet hI (by rw [← vx]; exact hvx))
  ·simp [Eff.run] at h2
 ·rw [if_neg hemp] at h2
  have hpos : 0 < src.length := by
   cases src with
   | nil => simp at hemp
   | cons => simp
  have hroom : roomy = 1099511627776 := rfl
  have hml : maxLen = 9223372036854775807 := rfl
  split at h2
  ·rename_i e1
   split at h2
   ·rename_i hc
    obtain ⟨g1, g2⟩ := hc
    obtain ⟨f1, f2, f3⟩ := run_new h2
    simp only [Eff.run, Option.some.injEq] at f3
    subst f3
    rw [e1] at hvx
    have hold := run_firstCells_none (P := P) w.drew i.size 0 0 0
    have hr := run_append_grow_src (P := P) w t u o.type e i z hu hi hz none 0 0 [] hold (a.eval y) src.length news (by rw [hsz]; exact hS) (by omega) (by omega)
     (by rw [Nat.zero_add, nextslicecap_zero hpos, hby]; omega)
    simp only [Nat.zero_add, List.nil_append] at hr
    have hge := grownCap_ge w src.length 0 e
    have hcm := grownCap_le_maxLen w src.length 0 e (by rw [hml]; omega)
    obtain ⟨b1, b2⟩ := hL.block (Builtin.zeroCells z.cells (grownCap w src.length 0 e - src.length)) (by rw [zeroCells_size, hzl]) hge
    obtain ⟨ha, hI'⟩ := inv_new hI f1 f2 (NewBlk.drew_alloc w _ e) b1 hge hcm hL.each b2
    refine fin _ _ (by rw [hvx.inv_nil]; exact hr) ⟨_, ha, hI', rep_ref_new _ _ _ _ hge⟩
   ·simp [Eff.run] at h2
  ·rename_i id off len e1
   obtain ⟨⟨s', es', l1⟩, l2⟩ := run_live h2
   obtain ⟨s, es, lv, g1, g2⟩ := run_get l2
   rw [l1] at g1
   injection g1 with q1 q2 q3
   subst q1; subst q2; subst q3
   split at g2
   ·rename_i hc
    obtain ⟨rfl, rfl, c1, c2, c3⟩ := hc
    obtain ⟨f1, f2, f3⟩ := run_new g2
    simp only [Eff.run, Option.some.injEq] at f3
    subst f3
    rw [e1] at hvx
    obtain ⟨b, cap, k1, k2, k3⟩ := hI.rows id s' es' true l1
    obtain ⟨r1, A, vx, r2⟩ := hvx.inv_ref k1
    obtain ⟨cs, t1, t2, t3⟩ := take_LS hI k3 c1
    have hLL := t1.append hL
    have hlen : (es'.take len ++ src).length = len + src.length := by simp; omega
    simp only [Nat.sub_zero, Nat.zero_mul] at vx r2
    by_cases hfit : len + src.length ≤ cap
    ·have hA : A = ⟨b, 0, none⟩ := by
      rcases r2 with h | h
      ·exact h
      ·omega
     subst hA
     obtain ⟨⟨c, T, m1, m2, m3⟩, m4, m5, m6⟩ := k3
     have hfits : len * s' + news.length ≤ c.size := by
      rw [hL.size, m2, ← Nat.add_mul]
      exact Nat.mul_le_mul_right _ hfit
     have hst := run_storeCells_at P b (len * s') T news 0 c w m1 (by simpa using hfits) hL.one
     simp only [Nat.add_zero] at hst
     have hr : (Builtin.append_ #[t, u] o.type #[a.eval x, a.eval y]).run P w = .ok (.slice (some ⟨b, 0, none⟩) (len + src.length) cap) (w.setRow b (c.toList.take (len * s') ++ news ++ c.toList.drop (len * s' + news.length)).toArray) := by
      have hcc := hS.cells
      have hlen' := hS.len w
      have hadd : (⟨b, 0, none⟩ : Addr).add (len * s') = ⟨b, len * s', none⟩ := by rw [add_mk]; simp
      rw [vx]
      rcases hv with ⟨e', hk⟩ | hk <;> simp [Builtin.append_, run_underlying hu, run_underlying hk, sizeOf, typeInfo, hi, hlen', hfit, hcc, hsz, hadd, hst]
     have hcs : cs = c.toList.take (len * s') := by
      apply List.ext_getElem?
      intro j
      by_cases hj : j < len * s'
      ·rw [List.getElem?_take, if_pos hj]
       have hjc : j < cs.length := by omega
       have := t2 j _ (List.getElem?_eq_getElem hjc)
       rw [cell_of_row w b (0 + j) c T (0, 0) m1] at this
       rw [List.getElem?_eq_getElem hjc, ← this]
       simp
      ·rw [List.getElem?_eq_none (by omega), List.getElem?_eq_none (by simp; omega)]
     obtain ⟨ha, hI'⟩ := inv_append (w' := w.setRow b (c.toList.take (len * s') ++ news ++ c.toList.drop (len * s' + news.length)).toArray) (b' := b) (cap' := cap) (es' := es'.take len ++ src)
      hI l1 k1 f1 f2 (by rw [size_setRow]; exact Nat.le_refl _) rfl rfl rfl (fun k _ hk => setRow_other w b k _ hk) (.inl rfl) ⟨⟨_, T, setRow_heap w b c _ T (0, 0) m1, by
       simp only [List.size_toArray, List.length_append, List.length_take, List.length_drop, Array.length_toList]
       omega, fun i j e d he hd => by
       obtain ⟨u', a1, a2, a3⟩ := hLL.cell i j e d he hd
       refine ⟨u', ?_, a2, a3⟩
       rw [hcs] at a1
       rw [List.getElem?_toArray, List.getElem?_append_left (by exact (List.getElem?_eq_some_iff.1 a1).1)]
       exact a1⟩, by rw [hlen]; exact hfit, m5, hLL.each⟩
     exact fin _ _ hr ⟨_, ha, hI', rep_ref_new _ _ _ _ hfit⟩
    ·have hold : (Builtin.firstCells i.size len (.slice (some A) len cap)).run P w.drew = .ok cs.toArray w.drew := by
      refine run_firstCells_some w.drew i.size len A len cap cs (by rw [hsz]; exact t3) (fun j v hj => ?_)
      have hA : A = ⟨b, 0, none⟩ ∨ cs = [] := by
       rcases r2 with h | h
       ·exact .inl h
       ·right
        apply List.eq_nil_of_length_eq_zero
        rw [t3, show len = 0 by omega]; simp
      rcases hA with rfl | rfl
      ·rw [add_mk, World.cell?_drew]; exact t2 j v hj
      ·simp at hj
     have hr := run_append_grow_src (P := P) w t u o.type e i z hu hi hz (some A) len cap cs hold (a.eval y) src.length news (by rw [hsz]; exact hS) (by omega) (by omega)
      (growslice_fits (by omega) (by rw [hby]; omega))
     have hge := grownCap_ge w (len + src.length) cap e
     have hcm := grownCap_le_maxLen w (len + src.length) cap e (by rw [hml]; omega)
     obtain ⟨b1, b2⟩ := hLL.block (Builtin.zeroCells z.cells (grownCap w (len + src.length) cap e - (len + src.length))) (cap := grownCap w (len + src.length) cap e) (by rw [zeroCells_size, hzl, hlen]) (by rw [hlen]; exact hge)
     have hn := NewBlk.drew_alloc w ((cs ++ news).toArray ++ Builtin.zeroCells z.cells (grownCap w (len + src.length) cap e - (len + src.length))) e
     obtain ⟨ha, hI'⟩ := inv_append (b' := w.heap.size) (cap' := grownCap w (len + src.length) cap e) (es' := es'.take len ++ src) hI l1 k1 f1 f2 (by rw [hn.size]; omega) hn.os hn.tape hn.output (fun k hk _ => hn.old k hk) (.inr (Nat.le_refl _))
      ⟨⟨_, e, hn.new, b1, b2⟩, by rw [hlen]; exact hge, hcm, hLL.each⟩
     exact fin _ _ (by rw [vx]; exact hr) ⟨_, ha, hI', rep_ref_new _ _ _ _ hge⟩
   ·simp [Eff.run] at g2
  ·simp [Eff.run] at h2
end
end Go.Pi
