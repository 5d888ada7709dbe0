import Derived.Test.YtghncdeldlknnaaPiJ
import Derived.DeepKeys
import Derived.Laws.StructEq
/-
  EQUALITY OF STRUCTS AND ARRAYS OF PLAIN CELLS; max, min; floats.
-/
set_option linter.all false
namespace Go.Pi
set_option linter.unusedVariables false

section
variable {P : Program} {fm : Nat → Nat} {w : World} {G : Gh} {ok : Nat → Prop}

def Fits (P : Program) (fm : Nat → Nat) (w : World) (G : Gh) (ok : Nat → Prop) (t : TypeId) (v : Value) (xs : List D) : Prop :=
  ∃ d, P.underlying t = some d ∧ ((isRowD d = true ∧ Rep fm G ok w v (.agg xs)) ∨ (isRowD d = false ∧ ∃ x, xs = [x] ∧ Rep fm G ok w v x))

theorem lay_und {m : Nat} {t : TypeId} {ks : List Nat} (h : lay P m t = some ks) : ∃ d, P.underlying t = some d ∧ (isRowD d = false → ks.length = 1) := by
  cases m with
  | zero => simp [lay] at h
  | succ m =>
    simp only [lay] at h
    split at h
    · rename_i e; injection h with h; subst h; exact ⟨_, e, fun _ => rfl⟩
    · rename_i k e; injection h with h; subst h; exact ⟨_, e, fun _ => rfl⟩
    · rename_i e; injection h with h; subst h; exact ⟨_, e, fun _ => rfl⟩
    · rename_i fs e; exact ⟨_, e, fun h => by cases h⟩
    · rename_i n k e; exact ⟨_, e, fun h => by cases h⟩
    · cases h

theorem part_fits {m : Nat} {e : TypeId} {ks : List Nat} {i : TypeInfo} (hl : lay P m e = some ks) (hi : P.info? e = some i) (hsz : i.size = ks.length) {vs : List Value} {cs : List D} (hc : CR (Rep fm G ok w) vs cs)
    {off : Nat} (hle : off + ks.length ≤ cs.length) : ∃ u, (part e vs.toArray off).run P w = .ok u w ∧ Fits P fm w G ok e u ((cs.drop off).take ks.length) := by
  obtain ⟨d, hd, h1⟩ := lay_und hl
  cases hr : isRowD d with
  | true =>
    obtain ⟨u, hp, hr'⟩ := part_ok (P := P) (w := w) (t := e) (ag := true) (n := ks.length) ⟨d, i, hd, hr, hi, hsz⟩ hc hle (d := .agg ((cs.drop off).take ks.length)) (by simp [shaped]) (fun vs ds h => rep_agg_of vs h)
    exact ⟨u, hp, d, hd, .inl ⟨hr, hr'⟩⟩
  | false =>
    have h1' := h1 hr
    have hlt : off < cs.length := by omega
    have hx : (cs.drop off).take ks.length = [cs[off]] := by
      rw [h1', List.drop_eq_getElem_cons hlt]; rfl
    obtain ⟨u, hp, hr'⟩ := part_ok (P := P) (w := w) (t := e) (ag := false) (n := ks.length) ⟨d, i, hd, hr, hi, hsz⟩ hc hle (d := cs[off]) (by rw [hx]; rfl) (fun vs ds h => rep_agg_of vs h)
    exact ⟨u, hp, d, hd, .inr ⟨hr, _, hx, hr'⟩⟩

theorem eqCs_split : ∀ (n : Nat) (xs ys : List D) {r : Bool}, n ≤ xs.length → n ≤ ys.length → eqCs xs ys = some r →
    ∃ b, eqCs (xs.take n) (ys.take n) = some b ∧ (if b then eqCs (xs.drop n) (ys.drop n) = some r else r = false)
  | 0, xs, ys, r, _, _, h => ⟨true, by simp [eqCs], by simpa using h⟩
  | n + 1, [], ys, r, h1, _, h => by simp at h1
  | n + 1, x :: xs, [], r, _, h2, h => by simp at h2
  | n + 1, x :: xs, y :: ys, r, h1, h2, h => by
    simp only [eqCs, Option.bind_eq_some_iff] at h
    obtain ⟨b, hb, h⟩ := h
    simp only [List.length_cons, Nat.add_le_add_iff_right] at h1 h2
    cases b with
    | false =>
      simp at h
      exact ⟨false, by simp [eqCs, hb], by simp [h]⟩
    | true =>
      simp only [if_true] at h
      obtain ⟨b', h3, h4⟩ := eqCs_split n xs ys h1 h2 h
      exact ⟨b', by simp [eqCs, hb, h3], by simpa using h4⟩

theorem flat_len (ks : List Nat) : ∀ n, ((List.replicate n ks).flatten).length = n * ks.length
  | 0 => by simp
  | n + 1 => by rw [List.replicate_succ, List.flatten_cons, List.length_append, flat_len ks n, Nat.add_mul, Nat.one_mul, Nat.add_comm]

/-- What is asked of a type: equality at it is equality of the cells. -/
def EqOk (P : Program) (fm : Nat → Nat) (w : World) (G : Gh) (ok : Nat → Prop) (d : Nat) (t : TypeId) (ks : List Nat) : Prop :=
  ∀ (xs ys : List D) (vx vy : Value) (r : Bool), Fits P fm w G ok t vx xs → Fits P fm w G ok t vy ys → xs.map kindD = ks → ys.map kindD = ks → eqCs xs ys = some r → (Op.equalIn d t vx vy).run P w = .ok r w

theorem eqFields_ok {m d : Nat} (ih : ∀ t ks, lay P m t = some ks → EqOk P fm w G ok d t ks) {vx vy : List Value} {cx cy : List D} (hx : CR (Rep fm G ok w) vx cx) (hy : CR (Rep fm G ok w) vy cy) :
    ∀ (fs : List Field) (off : Nat) (ks : List Nat) (r : Bool), layF P (lay P m) fs off = some ks → (cx.drop off).map kindD = ks → (cy.drop off).map kindD = ks → eqCs (cx.drop off) (cy.drop off) = some r →
      (Op.eqFields d vx.toArray vy.toArray fs).run P w = .ok r w
  | [], off, ks, r, hl, h1, h2, h => by
    simp only [layF, Option.some.injEq] at hl
    subst hl
    rw [List.map_eq_nil_iff] at h1 h2
    rw [h1, h2] at h
    simp [eqCs] at h
    subst h
    simp [Op.eqFields]
  | f :: fs, off, ks, r, hl, h1, h2, h => by
    simp only [layF] at hl
    split at hl
    · rename_i hc
      obtain ⟨hn, ho⟩ := hc
      simp only [Option.bind_eq_some_iff] at hl
      obtain ⟨k1, hk1, i, hi, hl⟩ := hl
      split at hl
      · rename_i hsz
        obtain ⟨hsz, hpos⟩ := hsz
        simp only [Option.map_eq_some_iff] at hl
        obtain ⟨k2, hk2, rfl⟩ := hl
        have l1 : k1.length ≤ (cx.drop off).length := by have := congrArg List.length h1; simp at this ⊢; omega
        have l2 : k1.length ≤ (cy.drop off).length := by have := congrArg List.length h2; simp at this ⊢; omega
        obtain ⟨b, hb1, hb2⟩ := eqCs_split k1.length _ _ l1 l2 h
        have t1 : ((cx.drop off).take k1.length).map kindD = k1 := by rw [List.map_take, h1]; simp
        have t2 : ((cy.drop off).take k1.length).map kindD = k1 := by rw [List.map_take, h2]; simp
        have d1 : (cx.drop (off + k1.length)).map kindD = k2 := by rw [← List.drop_drop, List.map_drop, h1]; simp
        have d2 : (cy.drop (off + k1.length)).map kindD = k2 := by rw [← List.drop_drop, List.map_drop, h2]; simp
        have e1 : off + k1.length ≤ cx.length := by simp only [List.length_drop] at l1; omega
        have e2 : off + k1.length ≤ cy.length := by simp only [List.length_drop] at l2; omega
        obtain ⟨u, hu, fu⟩ := part_fits hk1 hi hsz hx e1
        obtain ⟨v, hv, fv⟩ := part_fits hk1 hi hsz hy e2
        have hq := ih _ _ hk1 _ _ _ _ _ fu fv t1 t2 hb1
        rw [Op.eqFields, if_pos hn, ho]
        simp only [Sem.run_bind, hu, hv, hq, Result.andThen_ok]
        cases b with
        | false =>
          simp only [Bool.false_eq_true, if_false] at hb2
          subst hb2
          rfl
        | true =>
          simp only [if_true, List.drop_drop] at hb2
          exact eqFields_ok ih hx hy fs (off + k1.length) k2 r hk2 d1 d2 hb2
      · cases hl
    · cases hl

theorem eqItems_ok {m d : Nat} {e : TypeId} {i : TypeInfo} {ks : List Nat} (hk : lay P m e = some ks) (hi : P.info? e = some i) (hsz : i.size = ks.length) (hpos : 0 < ks.length) (ih : EqOk P fm w G ok d e ks)
    {vx vy : List Value} {cx cy : List D} (hx : CR (Rep fm G ok w) vx cx) (hy : CR (Rep fm G ok w) vy cy) : ∀ (n j : Nat) (r : Bool),
      (cx.drop (j * ks.length)).map kindD = (List.replicate n ks).flatten → (cy.drop (j * ks.length)).map kindD = (List.replicate n ks).flatten → eqCs (cx.drop (j * ks.length)) (cy.drop (j * ks.length)) = some r →
      (Op.eqItems d e ks.length vx.toArray vy.toArray (List.range' j n)).run P w = .ok r w
  | 0, j, r, h1, h2, h => by
    simp only [List.replicate_zero, List.flatten_nil, List.map_eq_nil_iff] at h1 h2
    rw [h1, h2] at h
    simp [eqCs] at h
    subst h
    simp [Op.eqItems]
  | n + 1, j, r, h1, h2, h => by
    rw [List.replicate_succ, List.flatten_cons] at h1 h2
    have l1 : ks.length ≤ (cx.drop (j * ks.length)).length := by have := congrArg List.length h1; simp only [List.length_map, List.length_append] at this; omega
    have l2 : ks.length ≤ (cy.drop (j * ks.length)).length := by have := congrArg List.length h2; simp only [List.length_map, List.length_append] at this; omega
    obtain ⟨b, hb1, hb2⟩ := eqCs_split ks.length _ _ l1 l2 h
    have t1 : ((cx.drop (j * ks.length)).take ks.length).map kindD = ks := by rw [List.map_take, h1]; simp
    have t2 : ((cy.drop (j * ks.length)).take ks.length).map kindD = ks := by rw [List.map_take, h2]; simp
    have d1 : (cx.drop ((j + 1) * ks.length)).map kindD = (List.replicate n ks).flatten := by rw [Nat.add_mul, Nat.one_mul, ← List.drop_drop, List.map_drop, h1]; simp
    have d2 : (cy.drop ((j + 1) * ks.length)).map kindD = (List.replicate n ks).flatten := by rw [Nat.add_mul, Nat.one_mul, ← List.drop_drop, List.map_drop, h2]; simp
    have e1 : j * ks.length + ks.length ≤ cx.length := by simp only [List.length_drop] at l1; omega
    have e2 : j * ks.length + ks.length ≤ cy.length := by simp only [List.length_drop] at l2; omega
    obtain ⟨u, hu, fu⟩ := part_fits hk hi hsz hx e1
    obtain ⟨v, hv, fv⟩ := part_fits hk hi hsz hy e2
    have hq := ih _ _ _ _ _ fu fv t1 t2 hb1
    rw [List.range'_succ, Op.eqItems]
    simp only [Sem.run_bind, hu, hv, hq, Result.andThen_ok]
    cases b with
    | false =>
      simp only [Bool.false_eq_true, if_false] at hb2
      subst hb2
      rfl
    | true =>
      simp only [if_true, List.drop_drop] at hb2
      refine eqItems_ok hk hi hsz hpos ih hx hy n (j + 1) r d1 d2 ?_
      rw [Nat.add_mul, Nat.one_mul]
      exact hb2

theorem eqCs_single {x y : D} {r : Bool} (h : eqCs [x] [y] = some r) : eqC x y = some r := by
  simp only [eqCs, Option.bind_eq_some_iff] at h
  obtain ⟨b, hb, h⟩ := h
  cases b <;> simp at h <;> subst h <;> exact hb

theorem eq_lay : ∀ (m d : Nat) (t : TypeId) (ks : List Nat), m ≤ d → lay P m t = some ks → EqOk P fm w G ok d t ks
  | 0, d, t, ks, _, h => by simp [lay] at h
  | m + 1, 0, t, ks, hle, _ => by omega
  | m + 1, d + 1, t, ks, hle, h => by
    have ih : ∀ t ks, lay P m t = some ks → EqOk P fm w G ok d t ks := fun t ks h => eq_lay m d t ks (by omega) h
    intro xs ys vx vy r fx fy h1 h2 hr
    obtain ⟨dx, hdx, gx⟩ := fx
    obtain ⟨dy, hdy, gy⟩ := fy
    rw [hdx] at hdy
    injection hdy with hdy
    subst hdy
    simp only [lay] at h
    split at h
    · rename_i e
      rw [hdx] at e; injection e with e; subst e
      injection h with h; subst h
      rcases gx with ⟨gx, _⟩ | ⟨_, x, rfl, gx⟩
      · cases gx
      rcases gy with ⟨gy, _⟩ | ⟨_, y, rfl, gy⟩
      · cases gy
      have hq := eqCs_single hr
      cases x <;> simp [kindD] at h1
      cases y <;> simp [kindD] at h2
      rename_i a b
      simp only [eqC, Option.some.injEq] at hq
      subst hq
      rw [gx.inv_bool, gy.inv_bool]
      exact run_equalIn_bool w d t a b hdx
    · rename_i k e
      rw [hdx] at e; injection e with e; subst e
      injection h with h; subst h
      rcases gx with ⟨gx, _⟩ | ⟨_, x, rfl, gx⟩
      · cases gx
      rcases gy with ⟨gy, _⟩ | ⟨_, y, rfl, gy⟩
      · cases gy
      have hq := eqCs_single hr
      cases x <;> simp [kindD] at h1
      cases y <;> simp [kindD] at h2
      rename_i k1 a k2 b
      simp only [eqC] at hq
      split at hq
      · rename_i hk
        subst hk
        injection hq with hq
        subst hq
        rw [gx.inv_int, gy.inv_int]
        exact run_equalIn_int w d t k1 k a b hdx
      · cases hq
    · rename_i e
      rw [hdx] at e; injection e with e; subst e
      injection h with h; subst h
      rcases gx with ⟨gx, _⟩ | ⟨_, x, rfl, gx⟩
      · cases gx
      rcases gy with ⟨gy, _⟩ | ⟨_, y, rfl, gy⟩
      · cases gy
      have hq := eqCs_single hr
      cases x <;> simp [kindD] at h1
      cases y <;> simp [kindD] at h2
      rename_i a b
      simp only [eqC, Option.some.injEq] at hq
      subst hq
      rw [gx.inv_str, gy.inv_str]
      rw [run_equalIn_string w d t _ _ hdx]
      simp [ByteArray.toList_eq]
    · rename_i fs e
      rw [hdx] at e; injection e with e; subst e
      split at h
      · rename_i hst
        rcases gx with ⟨_, gx⟩ | ⟨gx, _⟩
        rotate_left
        · cases gx
        rcases gy with ⟨_, gy⟩ | ⟨gy, _⟩
        rotate_left
        · cases gy
        obtain ⟨ux, rfl, cx⟩ := rep_agg_CR gx
        obtain ⟨uy, rfl, cy⟩ := rep_agg_CR gy
        have hf : P.fieldsOf t = fs := by simp [Program.fieldsOf, hdx]
        rw [run_equalIn_struct w d t _ _ (by rw [hf]; exact hdx) hst, hf]
        exact eqFields_ok ih cx cy fs.toList 0 ks r h (by simpa using h1) (by simpa using h2) (by simpa using hr)
      · cases h
    · rename_i n e he
      rw [hdx] at he; injection he with he; subst he
      simp only [Option.bind_eq_some_iff] at h
      obtain ⟨k1, hk1, i, hi, h⟩ := h
      split at h
      · rename_i hc
        obtain ⟨hsz, hpos⟩ := hc
        injection h with h
        subst h
        rcases gx with ⟨_, gx⟩ | ⟨gx, _⟩
        rotate_left
        · cases gx
        rcases gy with ⟨_, gy⟩ | ⟨gy, _⟩
        rotate_left
        · cases gy
        obtain ⟨ux, rfl, cx⟩ := rep_agg_CR gx
        obtain ⟨uy, rfl, cy⟩ := rep_agg_CR gy
        rw [run_equalIn_array w d _ _ hdx hi, show P.cellsOf e = k1.length by simp [Program.cellsOf, hi, hsz], List.range_eq_range']
        exact eqItems_ok hk1 hi hsz hpos (ih _ _ hk1) cx cy n 0 r (by simpa using h1) (by simpa using h2) (by simpa using hr)
      · cases h
    · cases h

variable {B : Base} {H : Heap} {o : Oper} {a : Act} {ts : List D} {call : CallF} {r : Nat} {out : Out}
theorem op_eqA (hI : Inv fm B w G H) (hts : TsR (Rep fm G (okB B G H w) w) a.tmps ts) {neg : Bool} {m : Nat} {t u : TypeId} {ks : List Nat} {td : TypeDesc} {x y : Operand} {px py : PX}
    (ho : o.op = .binOp (if neg then .neq else .eql) t x y u) (ht : P.underlying t = some td) (hag : isRowD td = true) (hg : P.eqGuardType P.depth t = false) (hl : lay P m t = some ks) (hm : m ≤ 1000)
    (hx : TrX fm x px) (hy : TrX fm y py) (hrun : (opE call (PX.ev ts) r (.eqA neg ks px py)).run H = some out) : OpOk P o a w (Post fm B w G H out) := by
  have hvx := ev_rep hts hx
  have hvy := ev_rep hts hy
  simp only [opE] at hrun
  split at hrun
  · rename_i xs ys e1 e2
    split at hrun
    · rename_i hk
      obtain ⟨d, hd, rfl⟩ := run_quietO hrun
      simp only [Option.map_eq_some_iff] at hd
      obtain ⟨t', hn, rfl⟩ := hd
      rw [e1] at hvx; rw [e2] at hvy
      obtain ⟨ux, vx, cx⟩ := rep_agg_CR hvx
      obtain ⟨uy, vy, cy⟩ := rep_agg_CR hvy
      have he : (Op.equal t (.agg ux.toArray) (.agg uy.toArray)).run P w = .ok t' w := by
        rw [vx] at hvx; rw [vy] at hvy
        exact eq_lay m Op.maxDepth t ks (Nat.le_trans hm (by decide)) hl xs ys _ _ t' ⟨td, ht, .inl ⟨hag, hvx⟩⟩ ⟨td, ht, .inl ⟨hag, hvy⟩⟩ hk.1 hk.2 hn
      refine opOk_val (v := .bool (if neg then !t' else t')) (w' := w) ?_ (post_quiet hI (.closed (.bool _)))
      cases neg <;> simp only [Bool.false_eq_true, if_true, if_false] at ho ⊢ <;>
        simp [execOp, ho, Sem.run_bind, vx, vy, eqGuard, hg, binOp, he]
    · simp [Eff.run] at hrun
  · simp [Eff.run] at hrun

theorem op_toFlt (hI : Inv fm B w G H) (hts : TsR (Rep fm G (okB B G H w) w) a.tmps ts) {s d : TypeId} {x : Operand} {px : PX} (ho : o.op = .convert s d x)
    (hs : (P.underlying s).isSome = true) (hd : P.underlying d = some (.float .f64)) (hx : TrX fm x px) (hrun : (opE call (PX.ev ts) r (.conv .toFlt px)).run H = some out) : OpOk P o a w (Post fm B w G H out) := by
  have hv := ev_rep hts hx
  simp only [opE] at hrun
  split at hrun
  · rename_i k' n e1
    obtain rfl := run_quiet hrun
    rw [e1] at hv
    have vx := hv.inv_int
    obtain ⟨sd, hsd⟩ := Option.isSome_iff_exists.1 hs
    refine opOk_val (v := .float .f64 (FloatKind.f64.nearest n)) (w' := w) ?_ (post_quiet hI (.closed (.flt _)))
    simp [execOp, ho, vx, convert, run_underlying hsd, run_underlying hd, Conv.intToFloat]
  · simp [Eff.run] at hrun

theorem op_bits (hI : Inv fm B w G H) (hts : TsR (Rep fm G (okB B G H w) w) a.tmps ts) {f : Nat} {x : Operand} {px : PX} {ats : Array TypeId} (ho : o.op = .call { callee := .value (.func f), args := #[x], argTypes := ats })
    (hf : ExtOk P f true) (hx : TrX fm x px) (hrun : (opE call (PX.ev ts) r (.bits px)).run H = some out) : OpOk P o a w (Post fm B w G H out) := by
  have hv := ev_rep hts hx
  simp only [opE] at hrun
  split at hrun
  · rename_i b e1
    obtain rfl := run_quiet hrun
    rw [e1] at hv
    have vx := hv.inv_flt
    simp only [ExtOk, if_true] at hf
    refine opOk_val (v := .int .u64 (b : Int)) (w' := w) ?_ (post_quiet hI (.closed (.int _ _)))
    have he : (execOp a.eval o).run P w = (callFunc f #[a.eval x]).run P w := by simp [execOp, ho, resolve, Act.eval, Deferred.ofValue, invoke]
    rw [he, vx]
    exact hf b w
  · simp [Eff.run] at hrun
theorem op_ofBits (hI : Inv fm B w G H) (hts : TsR (Rep fm G (okB B G H w) w) a.tmps ts) {f : Nat} {x : Operand} {px : PX} {ats : Array TypeId} (ho : o.op = .call { callee := .value (.func f), args := #[x], argTypes := ats })
    (hf : ExtOk P f false) (hx : TrX fm x px) (hrun : (opE call (PX.ev ts) r (.ofBits px)).run H = some out) : OpOk P o a w (Post fm B w G H out) := by
  have hv := ev_rep hts hx
  simp only [opE] at hrun
  split at hrun
  · rename_i n e1
    obtain rfl := run_quiet hrun
    rw [e1] at hv
    have vx := hv.inv_int
    simp only [ExtOk, Bool.false_eq_true, if_false] at hf
    refine opOk_val (v := .float .f64 n.toNat) (w' := w) ?_ (post_quiet hI (.closed (.flt _)))
    have he : (execOp a.eval o).run P w = (callFunc f #[a.eval x]).run P w := by simp [execOp, ho, resolve, Act.eval, Deferred.ofValue, invoke]
    rw [he, vx]
    exact hf n w
  · simp [Eff.run] at hrun

theorem minmax_fold (mx : Bool) : ∀ (vs : List Value) (ds : List D) (k : IntKind) (m n : Int), vs.length = ds.length → (∀ (j : Nat) (v : Value) (d : D), vs[j]? = some v → ds[j]? = some d → Rep fm G ok w v d) →
    minmaxI mx m ds k = some n → (vs.foldlM (if mx then Builtin.max2 else Builtin.min2) (.int k m)).run P w = .ok (.int k n) w
  | [], [], k, m, n, _, _, h => by simp [minmaxI] at h; subst h; simp
  | v :: vs, [], k, m, n, hl, _, h => by simp at hl
  | [], d :: ds, k, m, n, hl, _, h => by simp at hl
  | v :: vs, d :: ds, k, m, n, hl, hr, h => by
    have hv := hr 0 v d rfl rfl
    cases d <;> simp only [minmaxI, reduceCtorEq] at h
    rename_i k' b
    split at h
    · rename_i hk
      subst hk
      rw [hv.inv_int]
      have := minmax_fold mx vs ds k _ n (by simpa using hl) (fun j v d h1 h2 => hr (j + 1) v d h1 h2) h
      simp only [List.foldlM_cons, Sem.run_bind]
      cases mx <;> simp only [Bool.false_eq_true, if_true, if_false] at this ⊢ <;> simpa [Builtin.max2, Builtin.min2] using this
    · cases h

theorem trXs_vals (hts : TsR (Rep fm G (okB B G H w) w) a.tmps ts) : ∀ {xs : List Operand} {qs : List PX}, TrXs fm xs qs →
    (xs.map a.eval).length = (qs.map (PX.ev ts)).length ∧ ∀ (j : Nat) (v : Value) (q : D), (xs.map a.eval)[j]? = some v → (qs.map (PX.ev ts))[j]? = some q → Rep fm G (okB B G H w) w v q
  | [], [], .nil => ⟨rfl, by simp⟩
  | x :: xs, px :: qs, .cons hx h => by
    obtain ⟨h1, h2⟩ := trXs_vals hts h
    refine ⟨by simpa using h1, fun j v q hv hq => ?_⟩
    cases j with
    | zero =>
      simp at hv hq
      subst hv; subst hq
      exact ev_rep hts hx
    | succ j => exact h2 j v q (by simpa using hv) (by simpa using hq)

theorem op_minmax (hI : Inv fm B w G H) (hts : TsR (Rep fm G (okB B G H w) w) a.tmps ts) {mx : Bool} {x : Operand} {xs : List Operand} {px : PX} {ps : List PX} {ats : Array TypeId}
    (ho : o.op = .call { callee := .builtin (if mx then .max else .min), args := (x :: xs).toArray, argTypes := ats })
    (hx : TrX fm x px) (hxs : TrXs fm xs ps) (hrun : (opE call (PX.ev ts) r (.minmax mx px ps)).run H = some out) : OpOk P o a w (Post fm B w G H out) := by
  have hv := ev_rep hts hx
  simp only [opE] at hrun
  split at hrun
  · rename_i k m e1
    obtain ⟨d, hd, rfl⟩ := run_quietO hrun
    simp only [Option.map_eq_some_iff] at hd
    obtain ⟨n, hn, rfl⟩ := hd
    rw [e1] at hv
    have vx := hv.inv_int
    obtain ⟨hl, hr⟩ := trXs_vals hts hxs
    have hfold := minmax_fold (P := P) (w := w) mx _ _ k m n hl hr hn
    refine opOk_val (v := .int k n) (w' := w) ?_ (post_quiet hI (.closed (.int _ _)))
    cases mx <;> simp only [Bool.false_eq_true, if_true, if_false] at ho hfold <;>
      simp [execOp, ho, resolve, invoke, builtin, Builtin.max_, Builtin.min_, vx, hfold]
  · simp [Eff.run] at hrun
end
end Go.Pi
