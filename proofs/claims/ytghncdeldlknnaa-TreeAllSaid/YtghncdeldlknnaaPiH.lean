import Derived.Test.YtghncdeldlknnaaPiG
import Derived.Laws.Cover3
/-
  THE SAME: what only computes, addresses, slices.
-/
set_option linter.all false
namespace Go.Pi
set_option linter.unusedVariables false
section
variable {P : Program} {fm : Nat → Nat} {B : Base} {w : World} {G : Gh} {H : Heap} {o : Oper} {a : Act} {ts : List D} {call : CallF} {r : Nat} {out : Out}

theorem op_mv (hI : Inv fm B w G H) (hts : TsR (Rep fm G (okB B G H w) w) a.tmps ts) {x : Operand} {px : PX} (ho : o.op = .move x ∨ o.op = .assign x) (hx : TrX fm x px)
    (hrun : (opE call (PX.ev ts) r (.mv px)).run H = some out) : OpOk P o a w (Post fm B w G H out) := by
  obtain rfl := run_quiet (by exact hrun)
  refine opOk_val (v := a.eval x) (w' := w) ?_ (post_quiet hI (ev_rep hts hx))
  rcases ho with ho | ho <;> simp [execOp, ho]

theorem op_pick (hI : Inv fm B w G H) (hts : TsR (Rep fm G (okB B G H w) w) a.tmps ts) {c x y : Operand} {pc px py : PX} (ho : o.op = .pick c x y) (hc : TrX fm c pc) (hx : TrX fm x px) (hy : TrX fm y py)
    (hrun : (opE call (PX.ev ts) r (.pick pc px py)).run H = some out) : OpOk P o a w (Post fm B w G H out) := by
  have hv := ev_rep hts hc
  simp only [opE] at hrun
  split at hrun
  · rename_i t e
    rw [e] at hv
    have hb := hv.inv_bool
    obtain rfl := run_quiet hrun
    refine opOk_val (v := if t then a.eval x else a.eval y) (w' := w) ?_ (post_quiet hI ?_)
    · simp [execOp, ho, hb, asBool]
    · cases t
      · exact ev_rep hts hy
      · exact ev_rep hts hx
  · simp [Eff.run] at hrun

theorem op_nilCheck (hI : Inv fm B w G H) (hts : TsR (Rep fm G (okB B G H w) w) a.tmps ts) {x : Operand} {px : PX} (ho : o.op = .nilCheck x) (hx : TrX fm x px)
    (hrun : (opE call (PX.ev ts) r (.nilCheck px)).run H = some out) : OpOk P o a w (Post fm B w G H out) := by
  have hv := ev_rep hts hx
  simp only [opE] at hrun
  split at hrun
  · rename_i id off e
    obtain rfl := run_quiet hrun
    rw [e] at hv
    obtain ⟨b, cap, sz, hg⟩ := GS.ne_fresh hv.ptr_fresh
    have hvv := hv.inv_ptr hg
    refine opOk_val (v := a.eval x) (w' := w) ?_ (post_quiet hI hv)
    simp [execOp, ho, hvv]
  · rename_i cs e
    obtain rfl := run_quiet hrun
    rw [e] at hv
    obtain ⟨b, off, vs, hvv, _, _, _⟩ := fptr_range hv.inv_fptr
    refine opOk_val (v := a.eval x) (w' := w) ?_ (post_quiet hI hv)
    simp [execOp, ho, hvv]
  · simp [Eff.run] at hrun

def pairOk : Value → Value → Bool
  | .nilIface, .nilIface => false
  | .agg _, .agg _ => false
  | _, _ => true
theorem run_eqGuard_int (op : BinOp) (t : TypeId) (x y : Operand) {u v : Value} (h : pairOk u v = true) :
    (eqGuard op t x y u v).run P w = .ok () w := by
  cases op <;> simp only [eqGuard] <;> first
    | rfl
    | (cases u <;> cases v <;> first | rfl | (simp [pairOk] at h))

theorem binI_ok {op : BinOp} {k : IntKind} {m n : Int} {d : D} (h : binI op k m n = some d) (t : TypeId) (hs : op ≠ .shl ∧ op ≠ .shr) : ∃ v, (binOp op t (.int k m) (.int k n)).run P w = .ok v w ∧ ∀ ok w, RepC fm ok w v d := by
  cases op <;> simp only [binI, Option.some.injEq, reduceCtorEq] at h
  case quo =>
    split at h
    · cases h
    · rename_i hn
      injection h with h
      subst h
      exact ⟨_, by simp [binOp, Op.intDiv, hn], fun _ _ => .int _ _⟩
  case rem =>
    split at h
    · cases h
    · rename_i hn
      injection h with h
      subst h
      exact ⟨_, by simp [binOp, Op.intDiv, hn], fun _ _ => .int _ _⟩
  case and | or | xor | andNot =>
    subst h
    refine ⟨_, ?_, fun _ _ => .int _ _⟩
    · refine (show _ = Sem.run P (if k ≠ k then stuck "BinOp: operands of different kinds" else Op.intBits _ k m n) w from rfl).trans ?_
      rw [if_neg (by simp)]
      rfl
  case add | sub | mul =>
    subst h
    refine ⟨_, ?_, fun _ _ => .int _ _⟩
    · simp [binOp, Op.intArith]
  all_goals
    subst h
    refine ⟨_, ?_, fun _ _ => .bool _⟩
    simp [binOp, Op.intCmp]

theorem shiftI_ok {op : BinOp} {k k' : IntKind} {m n : Int} {d : D} (h : shiftI op k m n = some d) (t : TypeId) : ∃ v, (binOp op t (.int k m) (.int k' n)).run P w = .ok v w ∧ ∀ ok w, RepC fm ok w v d := by
  unfold shiftI at h
  split at h
  · cases h
  · rename_i hn
    cases op <;> simp only [Option.some.injEq, reduceCtorEq] at h
    all_goals
      subst h
      exact ⟨_, by simp [binOp, Op.shift, hn], fun _ _ => .int _ _⟩

theorem toList_mk (l : List UInt8) : (⟨l.toArray⟩ : ByteArray).toList = l := by
  rw [ByteArray.toList_eq]

theorem binS_ok {op : BinOp} {m n : List UInt8} {d : D} (h : binS op m n = some d) (t : TypeId) : ∃ v, (binOp op t (.string ⟨m.toArray⟩) (.string ⟨n.toArray⟩)).run P w = .ok v w ∧ ∀ ok w, RepC fm ok w v d := by
  have e1 := toList_mk m
  have e2 := toList_mk n
  have s1 : (⟨m.toArray⟩ : ByteArray).size = m.length := rfl
  have s2 : (⟨n.toArray⟩ : ByteArray).size = n.length := rfl
  cases op <;> simp only [binS, Option.some.injEq, reduceCtorEq] at h
  case add =>
    split at h
    · rename_i hl
      injection h with h
      subst h
      refine ⟨.string ⟨(m ++ n).toArray⟩, ?_, fun _ _ => .str _⟩
      have hmax : IntKind.max .i64 = 9223372036854775807 := by decide
      have h1 : ¬ (((m.length + n.length : Nat) : Int) > IntKind.max .i64) := by rw [hmax]; omega
      have ha : (⟨m.toArray⟩ : ByteArray) ++ (⟨n.toArray⟩ : ByteArray) = ⟨(m ++ n).toArray⟩ := by
        apply ByteArray.ext
        simp [ByteArray.data_append]
      simp only [binOp, Op.stringOp, s1, s2, if_neg h1, ha]
      rfl
    · cases h
  all_goals
    subst h
    refine ⟨_, ?_, fun _ _ => .bool _⟩
    simp [binOp, Op.stringOp, e1, e2]

theorem fltD_ok {op : BinOp} {m n : Nat} {d : D} (h : fltD op m n = some d) (t : TypeId) : ∃ v, (binOp op t (.float .f64 m) (.float .f64 n)).run P w = .ok v w ∧ ∀ ok w, RepC fm ok w v d := by
  cases op <;> simp only [fltD, Option.map_eq_some_iff, Option.some.injEq, reduceCtorEq] at h
  case add => obtain ⟨b, hb, rfl⟩ := h; exact ⟨_, by simp [binOp, Op.floatArith, hb], fun _ _ => .flt _⟩
  case sub => obtain ⟨b, hb, rfl⟩ := h; exact ⟨_, by simp [binOp, Op.floatArith, hb], fun _ _ => .flt _⟩
  case mul => obtain ⟨b, hb, rfl⟩ := h; exact ⟨_, by simp [binOp, Op.floatArith, hb], fun _ _ => .flt _⟩
  case quo => obtain ⟨b, hb, rfl⟩ := h; exact ⟨_, by simp [binOp, Op.floatArith, hb], fun _ _ => .flt _⟩
  all_goals (subst h; exact ⟨_, by simp [binOp, Op.floatCmp], fun _ _ => .bool _⟩)

theorem op_bin (hI : Inv fm B w G H) (hts : TsR (Rep fm G (okB B G H w) w) a.tmps ts) {op : BinOp} {t u : TypeId} {x y : Operand} {px py : PX} (ho : o.op = .binOp op t x y u) (hx : TrX fm x px) (hy : TrX fm y py)
    (hrun : (opE call (PX.ev ts) r (.bin op px py)).run H = some out) : OpOk P o a w (Post fm B w G H out) := by
  have hvx := ev_rep hts hx
  have hvy := ev_rep hts hy
  obtain ⟨d, hd, rfl⟩ := run_quietO (by exact hrun)
  have key : ∃ v, (eqGuard op t x y (a.eval x) (a.eval y)).run P w = .ok () w ∧ (binOp op t (a.eval x) (a.eval y)).run P w = .ok v w ∧ ∀ ok w, RepC fm ok w v d := by
    unfold binD at hd
    split at hd
    · rename_i k m k' n e1 e2
      rw [e1] at hvx; rw [e2] at hvy
      rw [hvx.inv_int, hvy.inv_int]
      split at hd
      · obtain ⟨v, h1, h2⟩ := shiftI_ok (P := P) (w := w) (fm := fm) (k' := k') hd t
        exact ⟨v, run_eqGuard_int _ _ _ _ rfl, h1, h2⟩
      · obtain ⟨v, h1, h2⟩ := shiftI_ok (P := P) (w := w) (fm := fm) (k' := k') hd t
        exact ⟨v, run_eqGuard_int _ _ _ _ rfl, h1, h2⟩
      · rename_i hs1 hs2
        split at hd
        · rename_i hk
          subst hk
          obtain ⟨v, h1, h2⟩ := binI_ok (P := P) (w := w) (fm := fm) hd t ⟨fun e => hs1 e, fun e => hs2 e⟩
          exact ⟨v, run_eqGuard_int _ _ _ _ rfl, h1, h2⟩
        · cases hd
    · rename_i m n e1 e2
      rw [e1] at hvx; rw [e2] at hvy
      rw [hvx.inv_str, hvy.inv_str]
      obtain ⟨v, h1, h2⟩ := binS_ok (P := P) (w := w) (fm := fm) hd t
      exact ⟨v, run_eqGuard_int _ _ _ _ rfl, h1, h2⟩
    · rename_i m n e1 e2
      rw [e1] at hvx; rw [e2] at hvy
      rw [hvx.inv_flt, hvy.inv_flt]
      obtain ⟨v, h1, h2⟩ := fltD_ok (P := P) (w := w) (fm := fm) hd t
      exact ⟨v, run_eqGuard_int _ _ _ _ rfl, h1, h2⟩
    · cases hd
  obtain ⟨v, k1, k2, k3⟩ := key
  refine opOk_val (v := v) (w' := w) ?_ (post_quiet hI (.closed (k3 _ _)))
  simp only [execOp, ho, Sem.run_bind, k1, k2, Result.andThen_ok, Sem.run_pure]

theorem op_eqB (hI : Inv fm B w G H) (hts : TsR (Rep fm G (okB B G H w) w) a.tmps ts) {neg : Bool} {t u : TypeId} {x y : Operand} {px py : PX} (ho : o.op = .binOp (if neg then .neq else .eql) t x y u)
    (ht : P.underlying t = some .bool) (hx : TrX fm x px) (hy : TrX fm y py) (hrun : (opE call (PX.ev ts) r (.eqB neg px py)).run H = some out) : OpOk P o a w (Post fm B w G H out) := by
  have hvx := ev_rep hts hx
  have hvy := ev_rep hts hy
  simp only [opE] at hrun
  split at hrun
  · rename_i m n e1 e2
    obtain rfl := run_quiet hrun
    rw [e1] at hvx; rw [e2] at hvy
    have vx := hvx.inv_bool
    have vy := hvy.inv_bool
    refine opOk_val (v := .bool (if neg then !(m == n) else m == n)) (w' := w) ?_ (post_quiet hI (.closed (.bool _)))
    have hg := run_eqGuard_int (P := P) (w := w) (if neg then .neq else .eql) t x y (u := .bool m) (v := .bool n) rfl
    have he := run_equal_bool (P := P) w t m n ht
    cases neg <;> simp only [Bool.false_eq_true, if_true, if_false] at ho hg ⊢ <;>
      simp only [execOp, ho, Sem.run_bind, vx, vy, hg, Result.andThen_ok, binOp, he, Sem.run_pure]
  · simp [Eff.run] at hrun

theorem eqN_end {neg t' : Bool} {t u : TypeId} {x : Operand} {y : Value} (hI : Inv fm B w G H) (ho : o.op = .binOp (if neg then .neq else .eql) t x (.const y) u)
    (hk : (∃ A l c, a.eval x = .slice A l c) ∨ (∃ A, a.eval x = .pointer A)) (h1 : (Op.equal t (a.eval x) y).run P w = .ok t' w) (hy : (∃ A l c, y = .slice A l c) ∨ (∃ A, y = .pointer A)) :
    OpOk P o a w (Post fm B w G H ⟨.bool (if neg then !t' else t'), [], []⟩) := by
  have hp : pairOk (a.eval x) y = true := by rcases hk with ⟨A, l, c, h⟩ | ⟨A, h⟩ <;> (rw [h]; rfl)
  have k2 := run_eqGuard_int (P := P) (w := w) (if neg then .neq else .eql) t x (.const y) hp
  have k3 : (binOp (if neg then .neq else .eql) t (a.eval x) y).run P w = .ok (.bool (if neg then !t' else t')) w := by
    rcases hk with ⟨A, l, c, h⟩ | ⟨A, h⟩ <;> rw [h] at h1 ⊢ <;> rcases hy with ⟨_, _, _, rfl⟩ | ⟨_, rfl⟩ <;> cases neg <;> simp [binOp, h1]
  refine opOk_val (v := .bool (if neg then !t' else t')) (w' := w) ?_ (post_quiet hI (.closed (.bool _)))
  simp only [execOp, ho, Sem.run_bind, show a.eval (.const y) = y from rfl, k2, k3, Result.andThen_ok, Sem.run_pure]

theorem op_eqNS (hI : Inv fm B w G H) (hts : TsR (Rep fm G (okB B G H w) w) a.tmps ts) {neg : Bool} {t u e : TypeId} {x : Operand} {px : PX}
    (ho : o.op = .binOp (if neg then .neq else .eql) t x (.const (.slice none 0 0)) u) (ht : P.underlying t = some (.slice e)) (hx : TrX fm x px)
    (hrun : (opE call (PX.ev ts) r (.eqNS neg px)).run H = some out) : OpOk P o a w (Post fm B w G H out) := by
  have hvx := ev_rep hts hx
  obtain ⟨d, hd, rfl⟩ := run_quietO (by exact hrun)
  simp only [Option.map_eq_some_iff] at hd
  obtain ⟨t', hn, rfl⟩ := hd
  have hs : ∀ A l c, a.eval x = .slice A l c → (Op.equal t (a.eval x) (.slice none 0 0)).run P w = .ok A.isNone w := by
    intro A l c he
    rw [he]
    exact run_equal_slice_nil w t e A l c ht
  have key : ∃ A l c, a.eval x = .slice A l c ∧ A.isNone = t' := by
    cases hdd : px.ev ts <;> rw [hdd] at hvx hn <;> simp only [isNilS, Option.some.injEq, reduceCtorEq] at hn
    case nil =>
      subst hn
      exact ⟨_, _, _, hvx.inv_nil, rfl⟩
    case ref id off len =>
      subst hn
      obtain ⟨b, cap, sz, hg⟩ := GS.ne_fresh hvx.ref_fresh
      obtain ⟨_, A, hv, _⟩ := hvx.inv_ref hg
      exact ⟨_, _, _, hv, rfl⟩
    case lst sz es =>
      cases es with
      | nil => simp [isNilS] at hn
      | cons e0 es =>
        simp only [isNilS, Option.some.injEq] at hn
        subst hn
        have hc := hvx.inv_lst
        cases hr : a.eval x with
        | slice A l c =>
          rw [hr] at hc
          cases hc with
          | lst1 => exact ⟨_, _, _, rfl, rfl⟩
        | _ => rw [hr] at hc; cases hc
  obtain ⟨A, l, c, h1, rfl⟩ := key
  exact eqN_end hI ho (.inl ⟨A, l, c, h1⟩) (hs A l c h1) (.inl ⟨_, _, _, rfl⟩)

theorem op_eqNP (hI : Inv fm B w G H) (hts : TsR (Rep fm G (okB B G H w) w) a.tmps ts) {neg : Bool} {t u e : TypeId} {x : Operand} {px : PX}
    (ho : o.op = .binOp (if neg then .neq else .eql) t x (.const (.pointer none)) u) (ht : P.underlying t = some (.pointer e)) (hx : TrX fm x px)
    (hrun : (opE call (PX.ev ts) r (.eqNP neg px)).run H = some out) : OpOk P o a w (Post fm B w G H out) := by
  have hvx := ev_rep hts hx
  obtain ⟨d, hd, rfl⟩ := run_quietO (by exact hrun)
  simp only [Option.map_eq_some_iff] at hd
  obtain ⟨t', hn, rfl⟩ := hd
  have hs : ∀ A, a.eval x = .pointer A → (Op.equal t (a.eval x) (.pointer none)).run P w = .ok A.isNone w := by
    intro A he
    rw [he]
    exact run_equal_pointer_nil w t A (by rw [ht]; simp [Program.pointee, ht])
  have key : ∃ A, a.eval x = .pointer A ∧ A.isNone = t' := by
    cases hdd : px.ev ts <;> rw [hdd] at hvx hn <;> simp only [isNilP, Option.some.injEq, reduceCtorEq] at hn
    case nilp =>
      subst hn
      exact ⟨_, hvx.inv_nilp, rfl⟩
    case fptr =>
      subst hn
      obtain ⟨b, off, vs, hvv, _, _, _⟩ := fptr_range hvx.inv_fptr
      exact ⟨_, hvv, rfl⟩
    case ptr id off =>
      subst hn
      obtain ⟨b, cap, sz, hg⟩ := GS.ne_fresh hvx.ptr_fresh
      exact ⟨_, hvx.inv_ptr hg, rfl⟩
  obtain ⟨A, h1, rfl⟩ := key
  exact eqN_end hI ho (.inr ⟨A, h1⟩) (hs A h1) (.inr ⟨_, rfl⟩)

theorem op_un (hI : Inv fm B w G H) (hts : TsR (Rep fm G (okB B G H w) w) a.tmps ts) {op : UnOp} {t : TypeId} {x : Operand} {px : PX} (ho : o.op = .unOp op t x) (hx : TrX fm x px)
    (hrun : (opE call (PX.ev ts) r (.un op px)).run H = some out) : OpOk P o a w (Post fm B w G H out) := by
  have hvx := ev_rep hts hx
  obtain ⟨d, hd, rfl⟩ := run_quietO (by exact hrun)
  have key : ∃ v, (Op.unary op (a.eval x)).run P w = .ok v w ∧ ∀ ok w, RepC fm ok w v d := by
    unfold unD at hd
    split at hd
    · rename_i k n e1
      injection hd with hd
      subst hd
      rw [e1] at hvx
      rw [hvx.inv_int]
      exact ⟨_, by simp [Op.unary, Op.intArith], fun _ _ => .int _ _⟩
    · rename_i k n e1
      rw [e1] at hvx
      rw [hvx.inv_int]
      simp only [binI, Option.some.injEq] at hd
      subst hd
      exact ⟨_, rfl, fun _ _ => .int _ _⟩
    · rename_i b e1
      injection hd with hd
      subst hd
      rw [e1] at hvx
      rw [hvx.inv_bool]
      exact ⟨_, by simp [Op.unary], fun _ _ => .bool _⟩
    · cases hd
  obtain ⟨v, k1, k2⟩ := key
  refine opOk_val (v := v) (w' := w) ?_ (post_quiet hI (.closed (k2 _ _)))
  simp only [execOp, ho, Sem.run_bind, k1, Result.andThen_ok, Sem.run_pure]
end
end Go.Pi
