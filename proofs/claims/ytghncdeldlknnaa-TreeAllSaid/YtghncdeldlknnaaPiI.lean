import Derived.Test.YtghncdeldlknnaaPiH
/-
  THE SAME: conversions, slices, addresses, lengths, append.
-/
set_option linter.all false
namespace Go.Pi
set_option linter.unusedVariables false
section
variable {P : Program} {fm : Nat → Nat} {B : Base} {w : World} {G : Gh} {H : Heap} {o : Oper} {a : Act} {ts : List D} {call : CallF} {r : Nat} {out : Out}

/-- A slice of data: what its value is, where its cells are. -/
theorem lst_range {ok : Nat → Prop} {sz : Nat} {es : List (List D)} {v : Value} (h : RepC fm ok w v (.lst sz es)) :
    (es = [] ∧ ∃ A c, v = .slice A 0 c) ∨ (∃ b o c, v = .slice (some ⟨b, o, none⟩) es.length c ∧ es.length ≤ c ∧ ok b ∧ (∀ e ∈ es, e.length = sz) ∧
      ∀ (i : Nat) (e : List D), es[i]? = some e → ∃ cs, CR (RepC fm ok w) cs e ∧ w.rangeAt b (o + i * sz) cs) := by
  cases h with
  | lst0 _ A c => exact .inl ⟨rfl, A, c, rfl⟩
  | lst1 _ _ b o c u hc hok hlen hcell hone hrep =>
    refine .inr ⟨b, o, c, rfl, hc, hok, hlen, fun i e he => ⟨(List.range e.length).map (u i), ⟨by simp, fun j d hj => ?_⟩, fun j v hv => ?_⟩⟩
    · have hl : j < e.length := (List.getElem?_eq_some_iff.1 hj).1
      exact ⟨u i j, by simp [hl], hone i j e d he hj, hrep i j e d he hj⟩
    · have hl : j < e.length := by
        have := (List.getElem?_eq_some_iff.1 hv).1
        simpa using this
      simp [hl] at hv
      subst hv
      have := hcell i j e _ he (List.getElem?_eq_getElem hl)
      rwa [show o + (i * sz + j) = o + i * sz + j by omega] at this

theorem lst_inv {ok : Nat → Prop} {sz : Nat} {es : List (List D)} {v : Value} (h : RepC fm ok w v (.lst sz es)) :
    (es = [] ∧ ∃ A c, v = .slice A 0 c) ∨ (∃ (b o c : Nat) (u : Nat → Nat → Value), v = .slice (some ⟨b, o, none⟩) es.length c ∧ es.length ≤ c ∧ ok b ∧ (∀ e ∈ es, e.length = sz) ∧
      (∀ (i j : Nat) (e : List D) (d : D), es[i]? = some e → e[j]? = some d → w.cell? ⟨b, o + (i * sz + j), none⟩ = some (u i j)) ∧
      (∀ (i j : Nat) (e : List D) (d : D), es[i]? = some e → e[j]? = some d → (u i j).oneCell' = true) ∧
      (∀ (i j : Nat) (e : List D) (d : D), es[i]? = some e → e[j]? = some d → RepC fm ok w (u i j) d)) := by
  cases h with
  | lst0 _ A c => exact .inl ⟨rfl, A, c, rfl⟩
  | lst1 _ _ b o c u hc hok hlen hcell hone hrep => exact .inr ⟨b, o, c, u, rfl, hc, hok, hlen, hcell, hone, hrep⟩

/-- A part of a slice of data, as a slice. -/
theorem lst_part {ok : Nat → Prop} {sz : Nat} {es : List (List D)} {b o c : Nat} (h : RepC fm ok w (.slice (some ⟨b, o, none⟩) es.length c) (.lst sz es)) (l n : Nat) (hn : l + n ≤ es.length) (c' : Nat) (hc' : n ≤ c') :
    RepC fm ok w (.slice (some ⟨b, o + l * sz, none⟩) n c') (.lst sz ((es.drop l).take n)) := by
  have hlen : ((es.drop l).take n).length = n := by simp; omega
  by_cases h0 : n = 0
  · subst h0
    simp only [List.take_zero]
    exact .lst0 _ _ _
  · have hval : Value.slice (some ⟨b, o + l * sz, none⟩) n c' = Value.slice (some ⟨b, o + l * sz, none⟩) ((es.drop l).take n).length c' := by rw [hlen]
    rw [hval]
    rcases lst_inv h with ⟨rfl, _⟩ | ⟨b', o', c2, u, hv, hc, hok, hl, hcell, hone, hrep⟩
    · simp at hn; omega
    · injection hv with hv1 hv2 hv3
      injection hv1 with hv1
      injection hv1 with hb ho _
      subst hb; subst ho
      have hget : ∀ (i : Nat) (e : List D), ((es.drop l).take n)[i]? = some e → es[l + i]? = some e := by
        intro i e he
        rw [List.getElem?_take] at he
        split at he
        · rwa [List.getElem?_drop] at he
        · cases he
      refine .lst1 sz _ b (o + l * sz) c' (fun i j => u (l + i) j) (by omega) hok (fun e he => hl e (List.mem_of_mem_drop (List.mem_of_mem_take he))) (fun i j e d he hd => ?_)
        (fun i j e d he hd => hone _ _ e d (hget i e he) hd) (fun i j e d he hd => hrep _ _ e d (hget i e he) hd)
      have := hcell _ j e d (hget i e he) hd
      rwa [show o + ((l + i) * sz + j) = o + l * sz + (i * sz + j) by rw [Nat.add_mul]; omega] at this

theorem op_convInt (hI : Inv fm B w G H) (hts : TsR (Rep fm G (okB B G H w) w) a.tmps ts) {s d : TypeId} {k : IntKind} {x : Operand} {px : PX} (ho : o.op = .convert s d x)
    (hs : (P.underlying s).isSome = true) (hd : P.underlying d = some (.int k)) (hx : TrX fm x px) (hrun : (opE call (PX.ev ts) r (.conv (.toInt k) px)).run H = some out) : OpOk P o a w (Post fm B w G H out) := by
  have hv := ev_rep hts hx
  simp only [opE] at hrun
  split at hrun
  · rename_i k' n e1
    obtain rfl := run_quiet hrun
    rw [e1] at hv
    have vx := hv.inv_int
    obtain ⟨sd, hsd⟩ := Option.isSome_iff_exists.1 hs
    refine opOk_val (v := .int k (k.wrap n)) (w' := w) ?_ (post_quiet hI (.closed (.int _ _)))
    simp [execOp, ho, vx, convert, run_underlying hsd, run_underlying hd, Conv.intToInt]
  · simp [Eff.run] at hrun

/-- Bytes of data, as a list of values. -/
theorem bytes_vals : ∀ {es : List (List D)} {l : List UInt8}, bytesOf es = some l →
    ∃ ns : List Int, ns.length = es.length ∧ l = ns.map (fun n => UInt8.ofNat n.toNat) ∧ ∀ (i : Nat) (n : Int), ns[i]? = some n → es[i]? = some [D.int .u8 n]
  | [], l, h => by
    simp [bytesOf] at h
    exact ⟨[], rfl, by simp [← h], by simp⟩
  | e :: es, l, h => by
    match e, h with
    | [.int .u8 n], h =>
      simp only [bytesOf, Option.map_eq_some_iff] at h
      obtain ⟨l', hl', rfl⟩ := h
      obtain ⟨ns, h1, h2, h3⟩ := bytes_vals hl'
      refine ⟨n :: ns, by simp [h1], by simp [h2], fun i m hm => ?_⟩
      cases i with
      | zero => simp at hm ⊢; exact hm
      | succ i => simpa using h3 i m (by simpa using hm)

theorem conv_bytes {s d e : TypeId} (hs : P.underlying s = some (.slice e)) (he : P.underlying e = some (.int .u8)) (hd : P.underlying d = some .string) {b o c : Nat} {ns : List Int}
    (hc : ∀ i n, ns[i]? = some n → w.cell? ⟨b, o + i, none⟩ = some (.int .u8 n)) :
    (convert s d (.slice (some ⟨b, o, none⟩) ns.length c)).run P w = .ok (.string ⟨(ns.map fun n => UInt8.ofNat n.toNat).toArray⟩) w := by
  have hl := run_loadCells_list (P := P) w ⟨b, o, none⟩ (ns.map (Value.int .u8)) (fun j v hj => by
    rw [List.getElem?_map, Option.map_eq_some_iff] at hj
    obtain ⟨n, hn, rfl⟩ := hj
    rw [add_mk]
    exact hc j n hn)
  rw [List.length_map] at hl
  rw [run_convert_bytes_string w s d e _ ns.length c hs he hd, run_bytesToString w _ ns.length c ns hl, foldl_push_bytes]
  simp [ByteArray.empty, ByteArray.emptyWithCapacity]
  rfl

theorem op_convBS (hI : Inv fm B w G H) (hts : TsR (Rep fm G (okB B G H w) w) a.tmps ts) {s d e : TypeId} {x : Operand} {px : PX} (ho : o.op = .convert s d x)
    (hs : P.underlying s = some (.slice e)) (he : P.underlying e = some (.int .u8)) (hd : P.underlying d = some .string) (hx : TrX fm x px)
    (hrun : (opE call (PX.ev ts) r (.conv .bytesStr px)).run H = some out) : OpOk P o a w (Post fm B w G H out) := by
  have hv := ev_rep hts hx
  have fin : ∀ l : List UInt8, (convert s d (a.eval x)).run P w = .ok (.string ⟨l.toArray⟩) w → OpOk P o a w (Post fm B w G H ⟨.str l, [], []⟩) := fun l hl => by
    refine opOk_val (v := .string ⟨l.toArray⟩) (w' := w) ?_ (post_quiet hI (.closed (.str l)))
    simp only [execOp, ho, Sem.run_bind, hl, Result.andThen_ok, Sem.run_pure]
  have nilc : ∀ A c, (convert s d (.slice A 0 c)).run P w = .ok (.string ⟨([] : List UInt8).toArray⟩) w := by
    intro A c
    cases A with
    | none => exact run_convert_bytes_nil w s e hs he 0 c d hd
    | some A =>
      have hl := run_loadCells_list (P := P) w A [] (by simp)
      rw [run_convert_bytes_string w s d e _ 0 c hs he hd, run_bytesToString w _ 0 c [] (by simpa using hl)]
      rfl
  simp only [opE] at hrun
  split at hrun
  · rename_i e1
    obtain rfl := run_quiet hrun
    rw [e1] at hv
    refine fin [] ?_
    rw [hv.inv_nil]
    exact nilc _ _
  · rename_i sz es e1
    split at hrun
    · rename_i h1
      subst h1
      obtain ⟨d', hd', rfl⟩ := run_quietO hrun
      simp only [Option.map_eq_some_iff] at hd'
      obtain ⟨l, hl, rfl⟩ := hd'
      rw [e1] at hv
      have hc := hv.inv_lst
      obtain ⟨ns, n1, rfl, n3⟩ := bytes_vals hl
      refine fin _ ?_
      rcases lst_range hc with ⟨rfl, A, c, hvv⟩ | ⟨b, o', c, hvv, _, _, hlen, hcells⟩
      · obtain rfl : ns = [] := List.eq_nil_of_length_eq_zero n1
        rw [hvv]
        exact nilc _ _
      · rw [hvv, ← n1]
        refine conv_bytes hs he hd (fun i n hn => ?_)
        obtain ⟨cs, k1, k2⟩ := hcells i _ (n3 i n hn)
        obtain ⟨u, u1, u2, u3⟩ := k1.2 0 _ rfl
        have := k2 0 u u1
        cases u3
        simpa using this
    · simp [Eff.run] at hrun
  · rename_i id off len e1
    obtain ⟨sz, es, lv, h1, h2⟩ := run_get hrun
    split at h2
    · rename_i hh
      obtain ⟨rfl, hle⟩ := hh
      obtain ⟨d', hd', rfl⟩ := run_quietO h2
      simp only [Option.map_eq_some_iff] at hd'
      obtain ⟨l, hl, rfl⟩ := hd'
      rw [e1] at hv
      obtain ⟨b, cap, g1, g2, g3⟩ := hI.rows id 1 es lv h1
      obtain ⟨r1, A, hvv, r2⟩ := hv.inv_ref g1
      obtain ⟨ns, n1, rfl, n3⟩ := bytes_vals hl
      have hlen : ns.length = len := by rw [n1]; simp; omega
      refine fin _ ?_
      rw [hvv]
      by_cases h0 : len = 0
      · subst h0
        obtain rfl : ns = [] := List.eq_nil_of_length_eq_zero hlen
        exact nilc _ _
      · rcases r2 with rfl | r2
        · rw [← hlen]
          obtain ⟨cs, c1, c2, c3, c4⟩ := g3.ranges hle
          refine conv_bytes hs he hd (fun i n hn => ?_)
          obtain ⟨u, u1, u2, u3⟩ := c4 i 0 _ _ (n3 i n hn) rfl
          have := c2 _ u u1
          rw [u3.inv_int] at this
          simpa using this
        · have := g3.len; omega
    · simp [Eff.run] at h2
  · simp [Eff.run] at hrun

theorem op_convSB (hI : Inv fm B w G H) (hts : TsR (Rep fm G (okB B G H w) w) a.tmps ts) {s d e : TypeId} {x : Operand} {px : PX} (ho : o.op = .convert s d x)
    (hs : P.underlying s = some .string) (hd : P.underlying d = some (.slice e)) (he : P.underlying e = some (.int .u8)) (hx : TrX fm x px)
    (hrun : (opE call (PX.ev ts) r (.conv .strBytes px)).run H = some out) : OpOk P o a w (Post fm B w G H out) := by
  have hv := ev_rep hts hx
  simp only [opE] at hrun
  split at hrun
  · rename_i l e1
    split at hrun
    · rename_i hroom
      obtain rfl := run_quiet hrun
      rw [e1] at hv
      have vx := hv.inv_str
      have hsz : (⟨l.toArray⟩ : ByteArray).size = l.length := rfl
      have hr := run_bytes_of_string (P := P) w s d e ⟨l.toArray⟩ hs hd he
      rw [hsz] at hr
      generalize hcap : grownCap w l.length 0 e = cap at hr
      have hge : l.length ≤ cap := hcap ▸ grownCap_ge w l.length 0 e
      generalize hC : bytesRow ⟨l.toArray⟩ cap = C at hr
      have hcell : ∀ (i : Nat) (b : UInt8), l[i]? = some b → C[i]? = some (.int .u8 (b.toNat : Int)) := by
        intro i b hi
        have hil : i < l.length := (List.getElem?_eq_some_iff.1 hi).1
        rw [← hC]
        unfold bytesRow
        rw [Array.getElem?_append]
        rw [List.getElem?_eq_getElem hil] at hi
        injection hi with hi
        simp [hil, hi]
      have hblk : (w.drew.alloc (.cells C e (C.size, C.size + 1))).heap[w.heap.size]? = some (.cells C e (C.size, C.size + 1)) := heap_alloc_new w.drew _
      have hold : ∀ b, b < w.heap.size → (w.drew.alloc (.cells C e (C.size, C.size + 1))).heap[b]? = w.heap[b]? := fun b hb => heap_alloc_old w.drew _ b hb
      have hsize : (w.drew.alloc (.cells C e (C.size, C.size + 1))).heap.size = w.heap.size + 1 := by simp
      have ha : Adv B w G H (w.drew.alloc (.cells C e (C.size, C.size + 1))) G H := adv_mk (gle_refl _) (by omega) (fun b hb _ => hold b hb) (fun b h => .inl h)
      have hI' : Inv fm B (w.drew.alloc (.cells C e (C.size, C.size + 1))) G H := by
        refine inv_mk hI (by omega) rfl rfl rfl (fun b hb _ => hold b hb) (fun id sz es lv h => ?_) hI.fresh hI.dead hI.inj
        obtain ⟨b', cap', a1, a2, a3⟩ := hI.rows id sz es lv h
        exact ⟨b', cap', a1, a2, a3.mono (fun v d hv => ha.rep hv) (hold b' a3.lt)⟩
      refine opOk_val (v := .slice (some ⟨w.heap.size, 0, none⟩) l.length cap) (w' := w.drew.alloc (.cells C e (C.size, C.size + 1))) ?_ ⟨G, ha, hI', .closed ?_⟩
      · simp only [execOp, ho, vx, Sem.run_bind, hr, Result.andThen_ok, Sem.run_pure]
      · have hnl : ¬ Lv G H w.heap.size := by
          rintro ⟨id, sz, es, cap', sz', h1, h2⟩
          have := hI.blk_lt ⟨_, _, _, h1⟩ h2
          omega
        have hlen : (ofBytes l).length = l.length := by simp [ofBytes]
        rw [show Value.slice (some ⟨w.heap.size, 0, none⟩) l.length cap = Value.slice (some ⟨w.heap.size, 0, none⟩) (ofBytes l).length cap by rw [hlen]]
        have hget : ∀ (i j : Nat) (e' : List D) (d' : D), (ofBytes l)[i]? = some e' → e'[j]? = some d' → ∃ b, l[i]? = some b ∧ j = 0 ∧ d' = .int .u8 (b.toNat : Int) := by
          intro i j e' d' h1 h2
          simp only [ofBytes, List.getElem?_map, Option.map_eq_some_iff] at h1
          obtain ⟨b, hb, rfl⟩ := h1
          cases j with
          | zero => simp at h2; exact ⟨b, hb, rfl, h2.symm⟩
          | succ j => simp at h2
        refine .lst1 1 _ w.heap.size 0 cap (fun i _ => .int .u8 ((l.getD i 0).toNat : Int)) (by omega) ⟨.inr (.inr hI.size), hnl, by omega⟩ (fun e' he' => ?_) (fun i j e' d' h1 h2 => ?_) (fun i j e' d' h1 h2 => rfl) (fun i j e' d' h1 h2 => ?_)
        · simp only [ofBytes, List.mem_map] at he'
          obtain ⟨b, _, rfl⟩ := he'
          rfl
        · obtain ⟨b, hb, rfl, rfl⟩ := hget i j e' d' h1 h2
          rw [cell_of_row _ w.heap.size _ C e _ hblk]
          simp only [Nat.zero_add, Nat.mul_one, Nat.add_zero]
          rw [hcell i b hb]
          simp [List.getD_eq_getElem?_getD, hb]
        · obtain ⟨b, hb, rfl, rfl⟩ := hget i j e' d' h1 h2
          simp only [List.getD_eq_getElem?_getD, hb, Option.getD_some]
          exact .int _ _
    · simp [Eff.run] at hrun
  · simp [Eff.run] at hrun
end
end Go.Pi
