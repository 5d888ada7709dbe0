import Derived.Test.YtghncdeldlknnaaPiP
import Derived.LoopN
/-
  CODE, FUNCTIONS, THE PROGRAM: what the abstract interpreter runs, the machine runs.
-/
set_option linter.all false
namespace Go.Pi
set_option linter.unusedVariables false

/-- What is not ordered names no slot that the other writes. -/
def DrawOk (ps : List PO) : Prop := ∀ j k, j < k → k < ps.length → ((∃ t, (pAt ps j).dst = some t ∧ (t ∈ (pAt ps k).uses ∨ (pAt ps k).dst = some t)) ∨ (∃ t, (pAt ps k).dst = some t ∧ t ∈ (pAt ps j).uses)) → j ∈ (pAt ps k).after

section
variable {P : Program} {fm : Nat → Nat} {B : Base} {w : World} {G : Gh} {o : Oper} {a : Act} {call : CallF}

theorem trL_len {ops : Array Oper} : ∀ {l : List Oper} {ps : List PO} {i : Nat}, TrL P fm ops i l ps → l.length = ps.length
  | [], [], _, .nil => rfl
  | o :: l, p :: ps, _, .cons _ h => by simp [trL_len h]
theorem trL_at {ops : Array Oper} (l : List Oper) : ∀ {ps : List PO} {i : Nat}, TrL P fm ops i l ps → ∀ (k : Nat) (o : Oper), l[k]? = some o → TrPO P fm ops (i + k) o (pAt ps k) := by
  induction l with
  | nil => intro ps i _ k o hk; simp at hk
  | cons o l ih =>
    intro ps i ht k o' hk
    cases ht with
    | cons h htl =>
      cases k with
      | zero => simp at hk; subst hk; exact h
      | succ k =>
        have := ih htl k o' (by simpa using hk)
        rw [show i + (k + 1) = i + 1 + k by omega]
        exact this

def cnt (S : Nat → Bool) : Nat → Nat
  | 0 => 0
  | k + 1 => (if S k then 0 else 1) + cnt S k
theorem cnt_zero {S : Nat → Bool} : ∀ {n : Nat}, cnt S n = 0 → ∀ j, j < n → S j = true
  | n + 1, h, j, hj => by
    simp only [cnt] at h
    by_cases e : j = n
    · subst e
      cases hs : S j with
      | true => rfl
      | false => rw [hs] at h; simp at h
    · exact cnt_zero (n := n) (by omega) j (by omega)
theorem cnt_le {S : Nat → Bool} {i : Nat} : ∀ n, cnt (fun j => S j || j == i) n ≤ cnt S n
  | 0 => Nat.le_refl _
  | n + 1 => by
    have := cnt_le (S := S) (i := i) n
    simp only [cnt]
    by_cases h : S n = true
    · simp [h]; omega
    · simp [h]; split <;> omega
theorem cnt_add {S : Nat → Bool} {i : Nat} (hS : S i = false) : ∀ n, i < n → cnt (fun j => S j || j == i) n + 1 ≤ cnt S n
  | n + 1, h => by
    by_cases e : i = n
    · subst e
      have := cnt_le (S := S) (i := i) i
      simp only [cnt, hS]
      simp
      omega
    · have := cnt_add hS n (by omega)
      simp only [cnt]
      by_cases h' : S n = true
      · simp [h']; omega
      · simp [h']; split <;> omega

theorem draw_any (hs : Sound P fm call) {ops : Array Oper} {ps : List PO} (htl : TrL P fm ops 0 ops.toList ps) {base : Nat} {st : Nat → St} (hR : Run call base ps st) {Q : Exit → Act → World → Prop}
    {w0 : World} {G0 : Gh} {H0 : Heap} (hQ : ∀ a' w' G', RelS fm B w' G' (st ps.length) a' → Adv B w0 G0 H0 w' G' (st ps.length).hp → Q .normal a' w') :
    ∀ (fuel : Nat) (listed : Array Bool) (S : Nat → Bool) (w : World) (G : Gh) (a : Act), listed.size = ops.size → (∀ j, j < ps.length → listed.getD j true = S j) → Down ps S → cnt S ps.length ≤ fuel →
      RelS fm B w G (sig call base ps st S ps.length) a → Adv B w0 G0 H0 w G (sig call base ps st S ps.length).hp → wpAny P .any ops Q fuel listed a w := by
  have hlen : ops.size = ps.length := by rw [← trL_len htl, Array.length_toList]
  have hall : ∀ {S : Nat → Bool}, (∀ j, j < ps.length → S j = true) → sig call base ps st S ps.length = st ps.length := by
    intro S h
    have : ∀ k, k ≤ ps.length → sig call base ps st S k = st k := by
      intro k
      induction k with
      | zero => intro _; rfl
      | succ k ih =>
        intro hk
        simp only [sig, h k (by omega), if_true, ih (by omega)]
        exact (E_form hR (by omega)).choose_spec.2.1
    exact this _ (Nat.le_refl _)
  have done : ∀ {listed : Array Bool} {S : Nat → Bool}, listed.size = ops.size → (∀ j, j < ps.length → listed.getD j true = S j) → Region.ready .any ops listed = [] → ∀ n j, j < n → j < ps.length → S j = true := by
    intro listed S hsz hl hr n
    induction n with
    | zero => intro j h; omega
    | succ n ih =>
      intro j hj hjl
      cases hsj : S j with
      | true => rfl
      | false =>
        exfalso
        have hj' : j < ops.toList.length := by rw [Array.length_toList, hlen]; exact hjl
        have ht := trL_at _ htl j ops.toList[j] (List.getElem?_eq_getElem hj')
        have : j ∈ Region.ready .any ops listed := by
          rw [mem_ready]
          refine ⟨by rw [hl j hjl, hsj], ops.toList[j], by simp [hlen, hjl], fun e he hb => ?_⟩
          have hlt := ht.lt e (Array.mem_toList_iff.2 he) hb
          have h1 := ih e.on (by omega) (by omega)
          have h2 := hl e.on (by omega)
          rw [h1] at h2
          rw [Array.getD_eq_getD_getElem?] at h2 ⊢
          have : e.on < listed.size := by omega
          simp only [Array.getElem?_eq_getElem this, Option.getD_some] at h2 ⊢
          exact h2
        rw [hr] at this
        cases this
  intro fuel
  induction fuel with
  | zero =>
    intro listed S w G a hsz hl hd hc hrel hadv
    have hS := cnt_zero (show cnt S ps.length = 0 by omega)
    have hr : Region.ready .any ops listed = [] := by
      rw [List.eq_nil_iff_forall_not_mem]
      intro j hj
      rw [mem_ready] at hj
      obtain ⟨h1, o, ho, _⟩ := hj
      have hjl : j < ps.length := by rw [← hlen]; exact (Array.getElem?_eq_some_iff.1 ho).1
      rw [hl j hjl, hS j hjl] at h1
      cases h1
    rw [hall hS] at hrel hadv
    exact ⟨hr, hQ a w G hrel hadv⟩
  | succ fuel ih =>
    intro listed S w G a hsz hl hd hc hrel hadv
    refine ⟨fun hr => ?_, fun i hi => ?_⟩
    · have hS := fun j hj => done hsz hl hr (j + 1) j (by omega) hj
      rw [hall hS] at hrel hadv
      exact hQ a w G hrel hadv
    · rw [mem_ready] at hi
      obtain ⟨h1, o, ho, h2⟩ := hi
      have hil : i < ps.length := by rw [← hlen]; exact (Array.getElem?_eq_some_iff.1 ho).1
      have hSi : S i = false := by rw [← hl i hil]; exact h1
      have ht := trL_at _ htl i o (by rw [Array.getElem?_toList]; exact ho)
      simp only [Nat.zero_add] at ht
      have hr : ∀ k ∈ (pAt ps i).after, S k = true := by
        intro k hk
        obtain ⟨e, he, rfl, hb⟩ := ht.after k hk
        have hlt := ht.lt e he hb
        have := h2 e (Array.mem_toList_iff.1 he) hb
        rw [← hl e.on (by omega)]
        rw [Array.getD_eq_getD_getElem?] at this ⊢
        have hh : e.on < listed.size := by omega
        simp only [Array.getElem?_eq_getElem hh, Option.getD_some] at this ⊢
        exact this
      have hstep := step_any hR hil hSi hd hr
      have hsig := sig_add hR hil hSi hd ps.length (Nat.le_refl _) hil
      have hd' : Down ps (fun j => S j || j == i) := by
        intro j hj hs k hk
        simp only [Bool.or_eq_true, beq_iff_eq] at hs ⊢
        rcases hs with hs | rfl
        · exact .inl (hd j hj hs k hk)
        · exact .inl (hr k hk)
      have hl' : ∀ j, j < ps.length → (listed.setIfInBounds i true).getD j true = (S j || j == i) := by
        intro j hj
        have := hl j hj
        rw [Array.getD_eq_getD_getElem?] at this ⊢
        rw [Array.getElem?_setIfInBounds]
        by_cases e : i = j
        · subst e
          have : i < listed.size := by omega
          simp [this]
        · have e' : (j == i) = false := by simp; exact fun h => e h.symm
          simp only [e, if_false, e', Bool.or_false]
          exact this
      have := stepO_ok hs (K := wpAny P .any ops Q fuel (listed.setIfInBounds i true)) (Q := Q) ht hrel hstep (fun a' w' G' hr' ha' => by
        rw [← hsig] at hr' ha'
        exact ih _ _ w' G' a' (by simpa using hsz) hl' hd' (by have := cnt_add hSi ps.length hil; omega) hr' (hadv.trans ha'))
      unfold wpOp
      rw [ho]
      simp only
      split
      · rename_i hw; rw [if_pos hw] at this; exact .inl this
      · rename_i hw; rw [if_neg hw] at this; exact this

def toExit : Ex → Exit
  | .normal => .normal
  | .exit id => .exit id
  | .ret => .ret

inductive TrC (P : Program) (fm : Nat → Nat) : Code → PC → Prop where
  | skip : TrC P fm .skip .skip
  | label (l : Nat) : TrC P fm (.label l) .skip
  | region {id n : Nat} {ops : Array Oper} {ps : List PO} (h : TrL P fm ops 0 ops.toList ps) : TrC P fm (.region id ops false) (.region false n ps)
  | regionD {id n : Nat} {ops : Array Oper} {ps : List PO} (h : TrL P fm ops 0 ops.toList ps) (hd : DrawOk ps) : TrC P fm (.region id ops true) (.region true n ps)
  | seq {x y : Code} {px py : PC} (hx : TrC P fm x px) (hy : TrC P fm y py) : TrC P fm (.seq x y) (.seq px py)
  | cond {c : Operand} {pc : PX} {x y : Code} {px py : PC} (hc : TrX fm c pc) (hx : TrC P fm x px) (hy : TrC P fm y py) : TrC P fm (.cond c x y) (.cond pc px py)
  | block {id : Nat} {c : Code} {pc : PC} (h : TrC P fm c pc) : TrC P fm (.block id c) (.block id pc)
  | loop {c : Code} {pc : PC} (h : TrC P fm c pc) : TrC P fm (.loop c) (.loop pc)
  | exit (id : Nat) : TrC P fm (.exit id) (.exit id)
  | ret : TrC P fm .ret .ret

theorem code_ok (hs : Sound P fm call) (hm : P.follows .mixedOrders = true) {fuel : Nat} {c : Code} {pc : PC} (ht : TrC P fm c pc) : ∀ {w : World} {G : Gh} {s s' : St} {a : Act} {ex : Ex} {Q : Exit → Act → World → Prop},
    RelS fm B w G s a → code call fuel pc s = some (ex, s') → (∀ a' w' G', RelS fm B w' G' s' a' → Adv B w G s.hp w' G' s'.hp → Q (toExit ex) a' w') → c.wp P Q a w := by
  induction ht with
  | skip =>
    intro w G s s' a ex Q hrel h hQ
    simp only [code, Option.some.injEq, Prod.mk.injEq] at h
    obtain ⟨rfl, rfl⟩ := h
    exact wp_skip (hQ a w G hrel (Adv.refl _ _ _ _))
  | label l =>
    intro w G s s' a ex Q hrel h hQ
    simp only [code, Option.some.injEq, Prod.mk.injEq] at h
    obtain ⟨rfl, rfl⟩ := h
    exact wp_label (hQ a w G hrel (Adv.refl _ _ _ _))
  | region htl =>
    intro w G s s' a ex Q hrel h hQ
    simp only [code, Bool.false_eq_true, if_false, Option.map_eq_some_iff, Prod.mk.injEq] at h
    obtain ⟨s1, h1, rfl, rfl⟩ := h
    obtain ⟨f1, f2⟩ := inv_free hrel.inv (fm := fm) (n := _)
    exact wp_region_list (seqR_ok hs _ htl (s := ⟨s.ts, s.hp ++ List.replicate _ .fresh⟩) ⟨hrel.ts.mono (fun v d hv => f1.rep hv), f2, hrel.defers⟩ h1 (fun a' w' G' hr ha => hQ a' w' G' hr (f1.trans ha)))
  | regionD htl hd =>
    intro w G s s' a ex Q hrel h hQ
    simp only [code, if_true, Option.map_eq_some_iff, Prod.mk.injEq] at h
    obtain ⟨s1, h1, rfl, rfl⟩ := h
    rename_i id n ops ps
    obtain ⟨f1, f2⟩ := inv_free hrel.inv (fm := fm) (n := n)
    obtain ⟨d1, d2⟩ := inv_drew f2
    obtain ⟨st, g1, g2, g3, g4⟩ := seqD_run h1
    have hpk : ∀ k, k < ps.length → ps[k]? = some (pAt ps k) := fun k hk => by unfold pAt; rw [List.getD_eq_getElem?_getD, List.getElem?_eq_getElem hk]; rfl
    have hR : Run call s.hp.length ps st := ⟨fun k hk => g3 k _ (hpk k hk), fun j k hj hk => by
      have := (g4 k _ (hpk k hk)).2 j _ hj (hpk j (by omega))
      rw [Nat.zero_add] at this
      exact this, hd⟩
    have hlen : ops.size = ps.length := by rw [← trL_len htl, Array.length_toList]
    have hsig0 : ∀ k, sig call s.hp.length ps st (fun _ => false) k = st 0 := by
      intro k
      induction k with
      | zero => rfl
      | succ k ih => simp only [sig, Bool.false_eq_true, if_false, ih]
    refine wp_region_any hm (draw_any (B := B) hs htl hR (w0 := w) (G0 := G) (H0 := s.hp) (fun a' w' G' hr ha => ?_) ops.size (Array.replicate ops.size false) (fun _ => false) w.drew G a (by simp) (fun j hj => by simp [Array.getD_eq_getD_getElem?, hlen, hj])
      (fun j hj h => by cases h) ?_ ?_ ?_)
    · rw [g2] at hr ha
      exact hQ a' w' G' hr ha
    · rw [hlen]
      have : ∀ n, cnt (fun _ => false) n ≤ n := by
        intro n
        induction n with
        | zero => exact Nat.le_refl _
        | succ n ih => simp only [cnt]; simp; omega
      exact this _
    · rw [hsig0, g1]
      exact ⟨hrel.ts.mono (fun v d hv => (f1.trans d1).rep hv), d2, hrel.defers⟩
    · rw [hsig0, g1]
      exact f1.trans d1
  | seq hx hy ihx ihy =>
    intro w G s s' a ex Q hrel h hQ
    simp only [code] at h
    split at h
    · rename_i s1 h1
      exact wp_seq (ihx hrel h1 (fun a' w' G' hr ha => ihy hr h (fun a'' w'' G'' hr2 ha2 => hQ a'' w'' G'' hr2 (ha.trans ha2))))
    · rename_i hne
      refine wp_seq (ihx hrel h (fun a' w' G' hr ha => ?_))
      cases ex with
      | normal => exact absurd h (hne s')
      | exit id => exact hQ a' w' G' hr ha
      | ret => exact hQ a' w' G' hr ha
  | cond hc hx hy ihx ihy =>
    intro w G s s' a ex Q hrel h hQ
    simp only [code] at h
    have hv := ev_rep hrel.ts hc
    split at h
    · rename_i b e
      rw [e] at hv
      refine wp_cond hv.inv_bool ?_
      cases b with
      | true => exact ihx hrel h hQ
      | false => exact ihy hrel h hQ
    · cases h
  | block hc ih =>
    intro w G s s' a ex Q hrel h hQ
    rename_i id c pc
    simp only [code] at h
    split at h
    · rename_i j s1 h1
      refine wp_block (ih hrel h1 (fun a' w' G' hr ha => ?_))
      simp only [toExit, Exit.inBlock]
      split at h
      · rename_i e
        simp only [Option.some.injEq, Prod.mk.injEq] at h
        obtain ⟨rfl, rfl⟩ := h
        rw [if_pos e]
        exact hQ a' w' G' hr ha
      · rename_i e
        simp only [Option.some.injEq, Prod.mk.injEq] at h
        obtain ⟨rfl, rfl⟩ := h
        rw [if_neg e]
        exact hQ a' w' G' hr ha
    · rename_i hne
      refine wp_block (ih hrel h (fun a' w' G' hr ha => ?_))
      cases ex with
      | normal => exact hQ a' w' G' hr ha
      | exit id => exact absurd h (hne id s')
      | ret => exact hQ a' w' G' hr ha
  | loop hc ih =>
    intro w G s s' a ex Q hrel h hQ
    rename_i c pc
    simp only [code] at h
    have key : ∀ n {w : World} {G : Gh} {s : St} {a : Act}, RelS fm B w G s a → loopN (code call fuel pc) n s = some (ex, s') →
        (∀ a' w' G', RelS fm B w' G' s' a' → Adv B w G s.hp w' G' s'.hp → Q (toExit ex) a' w') → Code.rounds P c Q n a w := by
      intro n
      induction n with
      | zero => intro w G s a _ h; simp [loopN] at h
      | succ n ihn =>
        intro w G s a hrel h hQ
        simp only [loopN] at h
        rw [rounds_succ]
        split at h
        · rename_i s1 h1
          exact ih hrel h1 (fun a' w' G' hr ha => ihn hr h (fun a'' w'' G'' hr2 ha2 => hQ a'' w'' G'' hr2 (ha.trans ha2)))
        · rename_i hne
          refine ih hrel h (fun a' w' G' hr ha => ?_)
          cases ex with
          | normal => exact absurd h (hne s')
          | exit id => exact hQ a' w' G' hr ha
          | ret => exact hQ a' w' G' hr ha
    exact wp_loop_rounds fuel (key fuel hrel h hQ)
  | exit id =>
    intro w G s s' a ex Q hrel h hQ
    simp only [code, Option.some.injEq, Prod.mk.injEq] at h
    obtain ⟨rfl, rfl⟩ := h
    exact wp_exit (hQ a w G hrel (Adv.refl _ _ _ _))
  | ret =>
    intro w G s s' a ex Q hrel h hQ
    simp only [code, Option.some.injEq, Prod.mk.injEq] at h
    obtain ⟨rfl, rfl⟩ := h
    exact wp_ret (hQ a w G hrel (Adv.refl _ _ _ _))

/-! ### a function -/
inductive TrR (P : Program) : List ResultVar → List PR → Prop where
  | nil : TrR P [] []
  | tmp {t : Nat} {rs : List ResultVar} {qs : List PR} (h : TrR P rs qs) : TrR P (.tmp t :: rs) (.tmp t :: qs)
  | cell {a t n : Nat} {ag : Bool} {rs : List ResultVar} {qs : List PR} (hs : Shape P t ag n) (h : TrR P rs qs) : TrR P (.cell a t :: rs) (.cell ag n a :: qs)

structure TrF (P : Program) (fm : Nat → Nat) (fn : Func) (pf : PF) : Prop where
  body : ∃ c, fn.body = some c ∧ TrC P fm c pf.body
  ntmps : fn.ntmps = pf.ntmps
  results : TrR P fn.results.toList pf.results

def resOne (tmps : Array Value) : ResultVar → Sem Value
  | .tmp t => pure (tmps.getD t undef)
  | .cell p t => do loadVar t (← asAddr (tmps.getD p undef))

theorem res_ok {s : St} (hrel : RelS fm B w G s a) : ∀ {rs : List ResultVar} {qs : List PR} {ds : List D}, TrR P rs qs → resL s qs = some ds →
    ∃ vs : List Value, (rs.mapM (resOne a.tmps)).run P w = .ok vs w ∧ vs.length = ds.length ∧
      ∀ (j : Nat) (v : Value) (d : D), vs[j]? = some v → ds[j]? = some d → Rep fm G (okB B G s.hp w) w v d
  | [], [], ds, .nil, h => by
    simp only [resL, Option.some.injEq] at h
    subst h
    exact ⟨[], by simp, rfl, by simp⟩
  | .tmp t :: rs, .tmp _ :: qs, ds, .tmp ht, h => by
    simp only [resL, res1, Option.bind_some, Option.map_eq_some_iff] at h
    obtain ⟨ds', h1, rfl⟩ := h
    obtain ⟨vs, k1, k2, k3⟩ := res_ok hrel ht h1
    refine ⟨a.tmps.getD t undef :: vs, by rw [List.mapM_cons]; simp only [resOne, Sem.run_bind, Sem.run_pure, Result.andThen_ok, k1], by simp [k2], fun j v d hv hd => ?_⟩
    cases j with
    | zero =>
      simp at hv hd
      subst hv; subst hd
      have := hrel.ts.getD (fun v => .closed (.undef v)) t
      simpa using this
    | succ j => exact k3 j v d (by simpa using hv) (by simpa using hd)
  | .cell p t :: rs, .cell ag n _ :: qs, ds, .cell hs ht, h => by
    simp only [resL, Option.bind_eq_some_iff, Option.map_eq_some_iff] at h
    obtain ⟨d0, h0, ds', h1, rfl⟩ := h
    obtain ⟨vs, k1, k2, k3⟩ := res_ok hrel ht h1
    have hp := hrel.ts.getD (fun v => .closed (.undef v)) p
    simp only [res1] at h0
    split at h0
    · rename_i id e
      rw [e] at hp
      split at h0
      · rename_i sz e' lv hh
        split at h0
        · rename_i hl
          obtain ⟨b, cap, g1, g2, g3⟩ := hrel.inv.rows id sz [e'] lv hh
          have hv := hp.inv_ptr g1
          obtain ⟨cs, c1, c2⟩ := g3.range (i := 0) (e := e') rfl
          simp only [Nat.zero_mul] at c2
          obtain ⟨v0, l1, l2⟩ := load_ok (P := P) hs c1 c2 hl h0 (fun vs h => rep_agg_of vs h)
          have hrun : (resOne a.tmps (.cell p t)).run P w = .ok v0 w := by
            simp only [resOne]
            rw [hv]
            simpa [Instr.loadAt, Instr.sureAddr, asAddr] using l1
          refine ⟨v0 :: vs, ?_, by simp [k2], fun j v d hv hd => ?_⟩
          · rw [List.mapM_cons]
            simp only [Sem.run_bind, hrun, Result.andThen_ok, k1, Sem.run_pure]
          · cases j with
            | zero =>
              simp at hv hd
              subst hv; subst hd
              exact l2
            | succ j => exact k3 j v d (by simpa using hv) (by simpa using hd)
        · cases h0
      · cases h0
    · cases h0

theorem resV_ok {s : St} (hrel : RelS fm B w G s a) {fn : Func} {qs : List PR} {d : D} (ht : TrR P fn.results.toList qs) (h : resV s qs = some d) :
    ∃ v, (results fn a.tmps).run P w = .ok v w ∧ Rep fm G (okB B G s.hp w) w v d := by
  unfold resV at h
  simp only [Option.map_eq_some_iff] at h
  obtain ⟨ds, h1, h2⟩ := h
  obtain ⟨vs, k1, k2, k3⟩ := res_ok hrel ht h1
  have hrun : (results fn a.tmps).run P w = .ok (if h : vs.toArray.size = 1 then vs.toArray[0] else .tuple vs.toArray) w := by
    have hd : results fn a.tmps = (do
        let vs ← fn.results.mapM (resOne a.tmps)
        pure (if h : vs.size = 1 then vs[0] else .tuple vs)) := rfl
    rw [hd, Sem.run_bind]
    have : (fn.results.mapM (resOne a.tmps)).run P w = .ok vs.toArray w := by
      rw [Array.mapM_eq_mapM_toList]
      simp [k1]
    rw [this]
    rfl
  refine ⟨_, hrun, ?_⟩
  match ds, vs, k2, h2, k3 with
  | [d0], [v0], _, h2, k3 =>
    simp only at h2
    subst h2
    simpa using k3 0 v0 d0 rfl rfl
  | [], [], _, h2, k3 =>
    simp only at h2
    subst h2
    exact .tup [] [] rfl (by simp)
  | d0 :: d1 :: ds, v0 :: v1 :: vs, k2, h2, k3 =>
    simp only at h2
    subst h2
    have : ¬ (v0 :: v1 :: vs).toArray.size = 1 := by simp
    rw [dif_neg this]
    exact .tup _ _ k2 (fun j d v h1 h2 => k3 j v d h2 h1)

/-- The program's functions are told, and no other. -/
def Linked (P : Program) (fm : Nat → Nat) (pr : Prog) : Prop := ∀ f pf, pr f = some pf → ∃ fn, P.funcs[fm f]? = some fn ∧ TrF P fm fn pf

theorem runN_sound (hm : P.follows .mixedOrders = true) {pr : Prog} (hl : Linked P fm pr) : ∀ n, Sound P fm (runN pr n) := by
  intro n
  induction n with
  | zero => intro f args H d H' h; simp [runN] at h
  | succ n ih =>
    intro f args H d H' h B w G vs hI hlen hargs
    simp only [runN] at h
    cases hp : pr f with
    | none => rw [hp] at h; cases h
    | some pf =>
      rw [hp] at h
      simp only at h
      obtain ⟨fn, hf, ⟨c, hb, hc⟩, hn, hr⟩ := hl f pf hp
      have hrel : RelS fm B w G ⟨args ++ List.replicate (pf.ntmps - args.length) .undef, H⟩ { tmps := vs.toArray ++ Array.replicate (fn.ntmps - vs.toArray.size) undef, defers := [] } := by
        refine ⟨⟨?_, fun j x hx => ?_⟩, hI, rfl⟩
        · simp [hlen, hn]
        · rw [List.getElem?_append] at hx
          split at hx
          · rename_i hj
            have hjv : j < vs.length := by omega
            refine ⟨vs[j], by rw [Array.getElem?_append_left (by simpa using hjv)]; simp [hjv], hargs j _ x (List.getElem?_eq_getElem hjv) hx⟩
          · rename_i hj
            rw [List.getElem?_replicate] at hx
            split at hx
            · rename_i hk
              injection hx with hx
              subst hx
              refine ⟨undef, ?_, .closed (.undef _)⟩
              rw [Array.getElem?_append_right (by simp; omega), Array.getElem?_replicate]
              simp only [List.size_toArray]
              rw [if_pos (by omega)]
            · cases hx
      refine calls_of_wp hf hb ?_
      split at h
      · rename_i s h1
        simp only [Option.map_eq_some_iff, Prod.mk.injEq] at h
        obtain ⟨d', hres, rfl, rfl⟩ := h
        refine code_ok ih hm hc hrel h1 (fun a' w' G' hr' ha => ?_)
        obtain ⟨v, k1, k2⟩ := resV_ok hr' hr hres
        exact ⟨hr'.defers, v, k1, v, G', rfl, ha, hr'.inv, k2⟩
      · rename_i s h1
        simp only [Option.map_eq_some_iff, Prod.mk.injEq] at h
        obtain ⟨d', hres, rfl, rfl⟩ := h
        refine code_ok ih hm hc hrel h1 (fun a' w' G' hr' ha => ?_)
        obtain ⟨v, k1, k2⟩ := resV_ok hr' hr hres
        exact ⟨hr'.defers, v, k1, v, G', rfl, ha, hr'.inv, k2⟩
      · cases h
end
end Go.Pi
