import Derived.Test.YtakonddhaabobaaGreatLC
set_option linter.all false
namespace Go.Pi
set_option linter.unusedVariables false
section
variable {S : Nat → Type} [Sg : Sig S] {ρ ρ' : Rho} {H H' : Heap} {fr : Fr} {b N : Nat} {t : TS S} {s g : St} {pr : Prog}
def resT (t : TS S) : PR → Option (Bool × List (Val S))
 | .tmp i => (match look t.sl i with
  | some v => slotV v
  | none => none)
 | .cell ag n a => (match look t.sl a with
  | some (.ptr o p i j) => (match p, Nat.beq i 0 && Nat.beq j 0, look t.hp o with
   | [], true, some (.box pn vs) => (match Nat.beq (widths vs) n, ag, vs with
    | true, true, vs => some (true, vs)
    | true, false, [v] => (match slotV v with
     | some (false, [w]) => some (false, [w])
     | _ => none)
    | _, _, _ => none)
   | _, _, _ => none)
  | _ => none)
theorem resT_ok (h : RelR fr b N ρ t g) {r : PR} {f : Bool} {vs : List (Val S)} (hr : resT t r = some (f, vs)) : ∃ d ds, res1 g r = some d ∧ VCs ρ g.hp vs ds ∧ (f = true → d = .agg ds) ∧ (f = false → ds = [d]) := by
 cases r with
 | tmp i =>
  simp only [resT] at hr
  split at hr
  ·rename_i v hv
   obtain ⟨ds, k1, k2⟩ := slotV_ok hr (h.sl _ _ hv)
   exact ⟨_, ds, rfl, k1, k2⟩
  ·cases hr
 | cell ag n a =>
  simp only [resT] at hr
  split at hr
  ·rename_i o p i j ha
   split at hr
   ·rename_i ws hij ho
    simp only [Bool.and_eq_true] at hij
    obtain rfl := Nat.eq_of_beq_eq_true hij.1
    obtain rfl := Nat.eq_of_beq_eq_true hij.2
    obtain ⟨id, sz, es, c1, c2, c3, c4⟩ := h.sl _ _ ha
    obtain ⟨id', ds, k1, k2, k3, k9⟩ := h.hp _ _ ho
    rw [c1] at k1; cases k1
    rw [c2] at k2; cases k2
    rw [Nat.zero_mul, Nat.zero_add] at c4
    split at hr
    ·rename_i hn
     cases hr
     have hl : ds.length = n := beq_wid hn k3
     refine ⟨.agg ds, ds, ?_, k3, fun _ => rfl, fun e => nomatch e⟩
     simp only [res1, c4, c2, hl, if_true, shaped]
    ·rename_i v hn
     have hl : ds.length = n := beq_wid hn k3
     split at hr
     ·rename_i w hw
      cases hr
      obtain ⟨a', b', rfl, q1, q2⟩ := k3
      have q2 : b' = [] := q2
      subst q2
      have hv : ∃ d, a' = [d] ∧ VS ρ g.hp v d := by
       cases v with
       | one m c x =>
        simp only [slotV, Option.some.injEq, Prod.mk.injEq] at hw
        have hlen : a'.length = 1 := by
         rw [q1.len]
         cases c <;> first | rfl | (exact absurd hw.1 (by simp [isAgg]))
        match a', hlen with
        | [d], _ =>
         refine ⟨d, rfl, ?_⟩
         simp only [VS, VSx, hw.1]
         exact q1
       | agg _ => obtain ⟨_, _, q⟩ := q1; exact q.elim
       | tup _ => obtain ⟨_, _, q⟩ := q1; exact q.elim
       | _ => obtain ⟨d, rfl, q⟩ := q1; exact ⟨d, rfl, q⟩
      obtain ⟨d, rfl, hv⟩ := hv
      obtain ⟨ds', z1, z2, z3⟩ := slotV_ok hw hv
      have z3 := z3 rfl
      subst z3
      refine ⟨d, [d], ?_, z1, (fun e => nomatch e), fun _ => rfl⟩
      simp only [res1, c4, c2]
      rw [if_pos (by simpa using hl)]
      rfl
     ·cases hr
    ·cases hr
   ·cases hr
  ·cases hr
def hand1 (t : TS S) : RK → PR → List Nat
 | .own _, r => (match resT t r with
  | some (false, [.whole o _]) => [o]
  | _ => [])
 | _, _ => []
def hands (t : TS S) : List RK → List PR → List Nat
 | k :: ks, r :: rs => hand1 t k r ++ hands t ks rs
 | _, _ => []
def inP (os : List Nat) : Nat → List Nat → Bool := fun q _ => os.contains q
def finV (t' : TS S) (c : Code) (r : PR) : Option (T S c) := match resT t' r with
 | some (f, vs) => (match beqB f (isAgg c) && (isAgg c || scC (S := S) 9 c) with
  | true => mkT (gA t') fuelT c vs
  | false => none)
 | none => none
def finO (t : TS S) (c : Code) (r : PR) : Option (List (T S c)) := match resT t r with
 | some (false, [.whole o p]) => (match p, look t.hp o with
  | [], some (.row n e l) => (match Nat.ble (n + dp e + 1) 11 with
   | true => convL e c l
   | false => none)
  | _, _ => none)
 | some (false, [.nil]) => some []
 | _ => none
def finC (t : TS S) (c : Code) (r : PR) : Option (List (T S c)) := match resT t r with
 | some (false, [v]) => (match scC (S := S) 9 c with
  | true => gC 11 v (.list c)
  | false => none)
 | _ => none
def finP (t' : TS S) (c : Code) (r : PR) : Option (T S c) := match resT t' r with
 | some (false, [.fp n c' v j]) => (match Nat.beq j 0 && Nat.ble n 11 with
  | true => conv c' c v
  | false => none)
 | some (false, [.ptr o p i j]) => (match p, Nat.beq i 0 && Nat.beq j 0, look t'.hp o with
  | [], true, some (.box pn vs) => mkT (gA t') fuelT c vs
  | _, _, _ => none)
 | _ => none
def finR (t t' : TS S) : (ks : List RK) → List PR → Option (Flds S (rcs ks))
 | [], [] => some ()
 | .val c :: ks, r :: rs => (match finV t' c r, finR t t' ks rs with
  | some x, some p => some (x, p)
  | _, _ => none)
 | .own c :: ks, r :: rs => (match finO t c r, finR t t' ks rs with
  | some x, some p => some (x, p)
  | _, _ => none)
 | .cl c :: ks, r :: rs => (match finC t c r, finR t t' ks rs with
  | some x, some p => some (x, p)
  | _, _ => none)
 | .fp c :: ks, r :: rs => (match finP t' c r, finR t t' ks rs with
  | some x, some p => some (x, p)
  | _, _ => none)
 | _, _ => none
def isCl : RK → Bool
 | .cl _ => true
 | _ => false
def plR : RK → Bool
 | .val c => scC (S := S) 9 c
 | .cl c => true
 | _ => false
def okR (ks : List RK) : Bool := match ks.filter isCl with
 | [] => true
 | [_] => ks.all (plR (S := S))
 | _ => false
def nodupB : List Nat → Bool
 | [] => true
 | x :: xs => !xs.contains x && nodupB xs
def finT (x : List Nat) (ks : List RK) (rs : List PR) (t : TS S) : Option (Flds S (rcs ks)) := match nodupB (hands t ks rs) && okR (S := S) ks with
 | true => finR t (t.clear (inP (x ++ hands t ks rs))) ks rs
 | false => none
theorem exp1_frz {d : D} (hd : ∀ id off len, d ≠ .ref id off len) : exp1 H d = ((frz fuelF d).run H).map fun x => (x.1, [], x.2) := by
 cases d <;> first | rfl | exact absurd rfl (hd _ _ _)
theorem finV_ok (h : RelR fr b N ρ t g) (hg : GhK s g) {c : Code} {r : PR} {x : T S c} (hx : finV t c r = some x) :
  ∃ d y rd, res1 g r = some d ∧ exp1 s.hp d = some (y, [], rd) ∧ VS noRho [] (.one 1 c x) y ∧ (∀ i ∈ rd, dead g.hp i ∨ Own ρ i) ∧ tupD d = false ∧ (scC (S := S) 9 c = true → rd = []) := by
 unfold finV at hx
 split at hx
 ·rename_i f vs hr
  split at hx
  ·rename_i hf
   simp only [Bool.and_eq_true, Bool.or_eq_true] at hf
   obtain ⟨hf, hf2⟩ := hf
   obtain rfl := beqB_eq hf
   obtain ⟨d, ds, k1, k2, k3, k4⟩ := resT_ok h hr
   have k5 := mkT_ok (R := FzR (Own ρ) g.hp) (fun k z => FzR.int k z) (fun v c x ds hg k => gA_ok h hg k) hx k2
   have scd : scC (S := S) 9 c = true → ds = en c x := fun hsc => by
    have : ∀ {cs ds : List D}, (∀ d ∈ cs, sc d = true ∧ scal d = true) → All2 (FzR (Own ρ) g.hp) cs ds → ds = cs := by
     intro cs
     induction cs with
     | nil => intro ds _ k; cases ds with
      | nil => rfl
      | cons _ _ => exact k.elim
     | cons c cs ih =>
      intro ds hs k
      cases ds with
      | nil => exact k.elim
      | cons d ds =>
       obtain ⟨⟨z, z1, z2, z3⟩, k⟩ := k
       have e := z2.sc (hs c (by simp)).1
       have hc := (hs c (by simp)).1
       rw [ih (fun d hd => hs d (by simp [hd])) k]
       congr 1
       cases d <;> simp only [frz, Eff.run] at z1 <;> first
        | (cases z1; exact e)
        | (split at z1 <;> first
         | (split at z1 <;> first | (simp only [run_bindE, Option.bind_eq_some_iff] at z1; obtain ⟨_, _, z1⟩ := z1; cases z1; simp only at e; rw [← e] at hc; cases hc) | cases z1)
         | cases z1)
        | (simp only [run_bindE, Option.bind_eq_some_iff] at z1; obtain ⟨_, _, z1⟩ := z1; cases z1; simp only at e; rw [← e] at hc; cases hc)
        | cases z1
    exact this (scC_ok hsc) k5
   cases hc : isAgg c with
   | true =>
    obtain ⟨z, q1, q2, q3⟩ := FzR.each k5
    have e := k3 hc
    subst e
    refine ⟨.agg ds, .agg z.1, z.2, k1, ?_, ?_, q3, rfl, fun hsc => ?_⟩
    ·rw [exp1_frz (fun _ _ _ e => D.noConfusion e)]
     have : (frz fuelF (.agg ds)).run g.hp = some (.agg z.1, z.2) := by simp only [fuelF, frz, run_bindE, q1, Option.bind_some, Eff.run]
     rw [(eff_gh hg.hp this).1]; rfl
    ·simp only [VS, VSx, hc]
     exact ⟨_, rfl, nrs_cl q2⟩
    ·have := scd hsc
     subst this
     have : ∀ {cs : List D}, (∀ d ∈ cs, sc d = true ∧ scal d = true) → (eachC (frz 11) cs).run g.hp = some (cs, []) := by
      intro cs
      induction cs with
      | nil => intro _; rfl
      | cons a cs ih =>
       intro hs
       have ha : (frz 11 a).run g.hp = some (a, []) := by
        have := (hs a (by simp)).1
        cases a <;> first | rfl | cases this
       simp [eachC, run_bindE, ha, ih (fun d hd => hs d (by simp [hd])), Eff.run]
     rw [this (scC_ok hsc)] at q1
     cases q1; rfl
   | false =>
    have e := k4 hc
    subst e
    rw [hc, Bool.false_eq_true, false_or] at hf2
    have e := scd hf2
    have hd : sc d = true ∧ scal d = true := scC_ok hf2 d (by rw [← e]; simp)
    have hfz : ∀ G : Heap, (frz fuelF d).run G = some (d, []) := fun G => by
     have := hd.1
     cases d <;> first | rfl | cases this
    refine ⟨d, d, [], k1, ?_, ?_, by simp, ?_, fun _ => rfl⟩
    ·rw [exp1_frz (fun _ _ _ e => by subst e; cases hd.1), hfz]; rfl
    ·simp only [VS, VSx, hc]
     rw [← e]
     exact ⟨Cl.plain (by have := hd.1; cases d <;> first | rfl | cases this) (Nr.rfl' d), trivial⟩
    ·have := hd.1
     cases d <;> first | rfl | cases this
  ·cases hx
 ·cases hx
theorem own_els {n : Nat} {e : Code} {q : List Nat → Option (Option Nat)} {l : List (T S e)} {m : Nat} (h : RowR H n e q l) (hm : n + dp e ≤ m) {id : Nat} {es : List (List D)} (h1 : q [] = some (some id)) (h2 : hat H id = .row (W (S := S) e) es true) :
  ∃ z, (eachE (frz m) es).run H = some z ∧ All2 (All2 Nr) (l.map (en e)) z.1 ∧ ∀ i ∈ z.2, dead H i ∨ ∃ p, q p = some (some i) ∧ p ≠ [] := by
 cases ho : isOwn e with
 | false =>
  rcases h.els ho with ⟨c1, _⟩ | ⟨id', es', c1, c2, c3⟩
  ·rw [h1] at c1; cases c1
  ·rw [h1] at c1; cases c1
   rw [h2] at c2; cases c2
   obtain ⟨z, z1, z2, z3⟩ := eachE_els (m := m) (H := H) (P := fun i => ∃ p, q p = some (some i) ∧ p ≠ []) (f := frz m) (vs := l.map (en e)) (ds := es) (All2.of (by rw [List.length_map]; exact c3.1.symm) fun i a d ha hd => by
    rw [List.getElem?_map, Option.map_eq_some_iff] at ha
    obtain ⟨v, hv, rfl⟩ := ha
    obtain ⟨d', e1, e2⟩ := c3.2 i v hv
    rw [hd] at e1; cases e1
    exact cls_each (by omega) e2)
   exact ⟨z, z1, z2, z3⟩
 | true =>
  cases e with
  | own e =>
   rcases RowB.elts h with ⟨c1, _⟩ | ⟨id', es', c1, c2, c3, c4⟩
   ·rw [h1] at c1; cases c1
   ·rw [h1] at c1; cases c1
    have h2' : hat H id = .row 1 es true := h2
    rw [h2'] at c2; cases c2
    obtain ⟨z, z1, z2, z3⟩ := eachE_els (m := m) (H := H) (P := fun i => ∃ p, q p = some (some i) ∧ p ≠ []) (f := frz m) (vs := l.map (en (.own e))) (ds := es) (All2.of (by rw [List.length_map]; exact c3.symm) fun i a d ha hd => by
     rw [List.getElem?_map, Option.map_eq_some_iff] at ha
     obtain ⟨v, hv, rfl⟩ := ha
     obtain ⟨ds, e1, y, e2, rfl, e4⟩ := c4 i v hv
     rw [hd] at e1; cases e1
     obtain ⟨m', rfl⟩ : ∃ m', m = m' + 1 := by
      simp only [dp] at hm
      exact ⟨m - 1, by omega⟩
     have hrec := row_fz (m := m') e4 (by simp only [dp] at hm; omega)
     rcases e4.top with ⟨t1, t2⟩ | ⟨id2, es2, t1, t2, t3⟩
     ·have t1 : q [i] = some none := t1
      rw [e2] at t1; cases t1
      refine ⟨([.nil], []), rfl, ⟨?_, trivial⟩, by simp⟩
      have : v = [] := t2
      subst this
      exact Nr.mk_nil
     ·have t1' : q [i] = some (some id2) := t1
      rw [e2] at t1'; cases t1'
      obtain ⟨z, k1, k2, k3⟩ := hrec id2 es2 t1 t2 0 (List.length v) (by rw [t3]; simp)
      refine ⟨([z.1], z.2), by simp [eachC, run_bindE, refD, k1, Eff.run], ⟨?_, trivial⟩, fun j hj => (k3 j hj).elim .inl fun ⟨p, hp⟩ => .inr ⟨i :: p, hp, by simp⟩⟩
      have e5 : ((v : List (T S e)).drop 0).take (List.length v) = v := by rw [List.drop_zero, List.take_of_length_le (Nat.le_refl _)]
      rw [e5] at k2
      exact k2)
    exact ⟨z, z1, z2, z3⟩
  | _ => cases ho
structure Xp (s g : St) (ρ : Rho) (os : List Nat) (hd : List Nat) (k : RK) (d y : D) (h rd : List Nat) : Prop where
 e : exp1 s.hp d = some (y, h, rd)
 tp : tupD d = false
 no : isCl k = false → (∀ id ∈ h, ∃ o ∈ hd, ρ o [] = some (some id)) ∧ nodup h = true ∧ ∀ i ∈ rd, dead g.hp i ∨ ∃ o p, ρ o p = some (some i) ∧ (os.contains o = false ∨ p ≠ [])
 pl : plR (S := S) k = true → isCl k = false → h = [] ∧ rd = []
 cl : isCl k = true → nodup h = true ∧ (h = [] ∨ rd = []) ∧ (∀ id ∈ h, dead g.hp id) ∧ ∀ i ∈ rd, dead g.hp i
theorem finO_ok (h : RelR fr b N ρ t g) (hg : GhK s g) {os : List Nat} {c : Code} {r : PR} {l : List (T S c)} (hx : finO t c r = some l) :
  ∃ d y hd rd, res1 g r = some d ∧ Xp (S := S) s g ρ os (hand1 t (.own c) r) (.own c) d y hd rd ∧ OwnX c l y := by
 unfold finO at hx
 split at hx
 ·rename_i o p hr
  split at hx
  ·rename_i n e m ho
   split at hx
   ·rename_i hn
    have hn : n + dp e ≤ 10 := by have := Nat.le_of_ble_eq_true hn; omega
    obtain ⟨d, ds, k1, k2, k3, k4⟩ := resT_ok h hr
    have k4 := k4 rfl
    subst k4
    obtain ⟨w1, w2, w3⟩ := convL_ok hx
    have hv : VR1 (S := S) ρ g.hp (.whole o []) d := by
     obtain ⟨a, b', e1, e2, e3⟩ := k2
     obtain ⟨d', rfl, q⟩ := e2
     cases e1
     exact q
    have hrow := h.hp _ _ ho
    have hh : hand1 t (.own c) r = [o] := by simp only [hand1, hr]
    rw [hh]
    rcases hv with ⟨id, sz, es, c1, c2, rfl⟩ | ⟨c1, rfl⟩
    ·have hsz : sz = W (S := S) e := by
      rcases RowR.top (S := S) hrow with ⟨t1, _⟩ | ⟨id2, es2, t1, t2, _⟩
      ·rw [c1] at t1; cases t1
      ·rw [c1] at t1; cases t1
       rw [c2] at t2; cases t2; rfl
     subst hsz
     obtain ⟨z, z1, z2, z3⟩ := own_els (S := S) hrow (m := 10) hn c1 c2
     have z1' := eachE_up (by decide : 10 ≤ fuelF) z1
     have c2s : hat s.hp id = .row (W (S := S) e) es true := by
      rcases hg.hp.2 id with q | ⟨_, _, _, q⟩
      ·rw [← q]; exact c2
      ·rw [c2] at q; cases q
     refine ⟨_, .own (W (S := S) e) z.1, [id], z.2, k1, ⟨?_, rfl, fun _ => ⟨fun i hi => ?_, rfl, fun i hi => ?_⟩, fun hp => (by cases hp), fun hp => (by cases hp)⟩, .inr ⟨z.1, by rw [w1], ?_⟩⟩
     ·simp only [exp1, c2s]
      rw [if_pos ⟨trivial, trivial⟩, (eff_gh hg.hp z1').1]; rfl
     ·simp only [List.mem_singleton] at hi
      subst hi
      exact ⟨o, by simp, c1⟩
     ·exact (z3 i hi).elim .inl fun ⟨p, q1, q2⟩ => .inr ⟨o, p, q1, .inr q2⟩
     ·rw [← w2] at z2
      exact ⟨by have := z2.len; simpa using this.symm, fun i v hv => by
       obtain ⟨d, q1, q2⟩ := get_all2 z2 hv
       exact ⟨d, q1, nrs_cl q2⟩⟩
    ·refine ⟨_, .nil, [], [], k1, ⟨rfl, rfl, fun _ => ⟨by simp, rfl, by simp⟩, fun hp => (by cases hp), fun hp => (by cases hp)⟩, .inl ⟨rfl, ?_⟩⟩
     rcases RowR.top (S := S) hrow with ⟨_, t1⟩ | ⟨id2, es2, t1, _, _⟩
     ·have t1 : m = [] := t1
      subst t1
      simpa using w3
     ·rw [c1] at t1; cases t1
   ·cases hx
  ·cases hx
 ·rename_i hr
  cases hx
  obtain ⟨d, ds, k1, k2, k3, k4⟩ := resT_ok h hr
  have k4 := k4 rfl
  subst k4
  obtain ⟨a, b', e1, ⟨d', rfl, q⟩, e3⟩ := k2
  cases e1
  obtain rfl : d = .nil := q
  exact ⟨_, .nil, [], [], k1, ⟨rfl, rfl, fun _ => ⟨by simp, rfl, by simp⟩, fun hp => (by cases hp), fun hp => (by cases hp)⟩, .inl ⟨rfl, rfl⟩⟩
 ·cases hx
theorem VCs.one1 {v : Val S} {d : D} (h : VCs ρ H [v] [d]) : VC ρ H v [d] := by
 obtain ⟨a, b', e1, e2, e3⟩ := h
 have e3 : b' = [] := e3
 rw [e3, List.append_nil] at e1
 rw [e1]
 exact e2
theorem cls_sc {n : Nat} : ∀ {cs ds : List D}, (∀ d ∈ cs, sc d = true ∧ scal d = true) → All2 (Cl H n) cs ds → ds = cs
 | [], [], _, _ => rfl
 | c :: cs, d :: ds, hs, h => by
  rw [h.1.sc (hs c (by simp)).1, cls_sc (fun d hd => hs d (by simp [hd])) h.2]
 | [], _ :: _, _, h | _ :: _, [], _, h => h.elim
theorem eachC_sc {G : Heap} {n : Nat} : ∀ {cs : List D}, (∀ d ∈ cs, sc d = true ∧ scal d = true) → (eachC (frz (n + 1)) cs).run G = some (cs, [])
 | [], _ => rfl
 | a :: cs, hs => by
  have ha : (frz (n + 1) a).run G = some (a, []) := by
   have := (hs a (by simp)).1
   cases a <;> first | rfl | cases this
  have ih := eachC_sc (G := G) (n := n) (cs := cs) (fun d hd => hs d (by simp [hd]))
  simp [eachC, run_bindE, ha, ih, Eff.run]
theorem eachE_sc {G : Heap} {n : Nat} : ∀ {es : List (List D)}, (∀ e ∈ es, ∀ d ∈ e, sc d = true ∧ scal d = true) → (eachE (frz (n + 1)) es).run G = some (es, [])
 | [], _ => rfl
 | e :: es, hs => by
  have ih := eachE_sc (G := G) (n := n) (es := es) (fun e he => hs e (by simp [he]))
  simp [eachE, run_bindE, eachC_sc (G := G) (n := n) (hs e (by simp)), ih, Eff.run]
theorem finC_ok (h : RelR fr b N ρ t g) (hg : GhK s g) {os hd0 : List Nat} {c : Code} {r : PR} {l : List (T S c)} (hx : finC t c r = some l) :
  ∃ d y hd rd, res1 g r = some d ∧ Xp (S := S) s g ρ os hd0 (.cl c) d y hd rd ∧ (VS noRho [] (.one 1 (.list c) l) y ∨ OwnX c l y) := by
 unfold finC at hx
 split at hx
 ·rename_i v hr
  split at hx
  ·rename_i hsc
   obtain ⟨d, ds, k1, k2, k3, k4⟩ := resT_ok h hr
   have k4 := k4 rfl
   subst k4
   have k5 := gC_ok (by decide) hx k2.one1
   have k5 : Cl g.hp 11 (.lst (W (S := S) c) (l.map (en c))) d := k5.1
   have htp : tupD d = false := by
    have := cl_one rfl k5
    cases d <;> first | rfl | cases this
   obtain ⟨z, z1, z2, z3⟩ := k5.frz
   have zs := (eff_gh hg.hp (frz_up z1 (show 11 ≤ fuelF by decide))).1
   have hy : VS (S := S) noRho [] (.one 1 (.list c) l) z.1 := VS.mk_lst (nr_cl rfl z2)
   have plain : exp1 s.hp d = some (z.1, [], z.2) → ∃ d y hd rd, res1 g r = some d ∧ Xp (S := S) s g ρ os hd0 (.cl c) d y hd rd ∧ (VS noRho [] (.one 1 (.list c) l) y ∨ OwnX c l y) := fun e =>
    ⟨d, z.1, [], z.2, k1, ⟨e, htp, fun q => (by cases q), fun _ q => (by cases q), fun _ => ⟨rfl, .inl rfl, by simp, z3⟩⟩, .inl hy⟩
   by_cases hd : ∃ id off len, d = .ref id off len
   ·obtain ⟨id, off, len, rfl⟩ := hd
    rcases k5 with ⟨q, _⟩ | ⟨sz, es, id', off', len', es0, e1, e2, e3, e4, e5, e6⟩ | ⟨_, _, _, _, _, _, _, _, e, _⟩ | ⟨_, _, _, e, _⟩
    ·cases q
    ·cases e1
     cases e2
     rcases hg.hp.2 id with q | ⟨sz2, es2, q1, q2⟩
     ·exact plain (by
       have e3' : hat s.hp id = _ := q.symm.trans e3
       simp only [exp1, e3', zs]; rfl)
     ·rw [e3] at q2
      cases q2
      by_cases hw : off = 0 ∧ len = es0.length
      ·obtain ⟨rfl, rfl⟩ := hw
       rw [List.drop_zero, List.take_of_length_le (Nat.le_refl _)] at e5
       have hes : ∀ e ∈ es0, ∀ d ∈ e, sc d = true ∧ scal d = true := by
        intro e he d hd
        obtain ⟨i, hi, rfl⟩ := List.mem_iff_getElem.mp he
        have hl := e5.len
        rw [List.length_map] at hl
        obtain ⟨e', q3, q4⟩ := get_all2 e5 (List.getElem?_eq_getElem (by omega : i < l.length))
        rw [List.getElem?_eq_getElem hi] at q3
        cases q3
        rw [cls_sc (scC_ok hsc) q4] at hd
        exact scC_ok hsc d hd
       refine ⟨_, .own (W (S := S) c) es0, [id], [], k1, ⟨?_, rfl, fun q => (by cases q), fun _ q => (by cases q), fun _ => ⟨rfl, .inr rfl, fun i hi => by
        simp only [List.mem_singleton] at hi
        subst hi
        exact ⟨_, _, e3⟩, by simp⟩⟩, .inr (.inr ⟨es0, rfl, ?_⟩)⟩
       ·simp only [exp1, q1]
        rw [if_pos ⟨trivial, trivial⟩, show fuelF = 11 + 1 from rfl, eachE_sc hes]; rfl
       ·refine ⟨by have := e5.len; simpa using this.symm, fun i v hv => ?_⟩
        obtain ⟨e', q3, q4⟩ := get_all2 e5 hv
        refine ⟨e', q3, ?_⟩
        rw [cls_sc (scC_ok hsc) q4]
        have : ∀ {cs : List D}, (∀ d ∈ cs, sc d = true ∧ scal d = true) → All2 Nr cs cs := by
         intro cs
         induction cs with
         | nil => intro _; trivial
         | cons a cs ih => intro hs; exact ⟨Nr.rfl' a, ih fun d hd => hs d (by simp [hd])⟩
        exact nrs_cl (this (scC_ok hsc))
      ·exact plain (by simp only [exp1, q1]; rw [if_neg hw, zs]; rfl)
    ·cases e
    ·cases e
   ·exact plain (by rw [exp1_frz fun id off len e => hd ⟨id, off, len, e⟩, zs]; rfl)
  ·cases hx
 ·cases hx
theorem finP_ok (h : RelR fr b N ρ t g) (hg : GhK s g) {c : Code} {r : PR} {x : T S c} (hx : finP t c r = some x) :
  ∃ d y rd, res1 g r = some d ∧ exp1 s.hp d = some (y, [], rd) ∧ VS noRho [] (.fp 1 c x 0) y ∧ (∀ i ∈ rd, dead g.hp i ∨ Own ρ i) ∧ tupD d = false := by
 unfold finP at hx
 split at hx
 ·rename_i n c' v' j hr
  split at hx
  ·rename_i hn
   simp only [Bool.and_eq_true] at hn
   obtain rfl := Nat.eq_of_beq_eq_true hn.1
   have hn := Nat.le_of_ble_eq_true hn.2
   obtain ⟨d, ds, k1, k2, k3, k4⟩ := resT_ok h hr
   have k4 := k4 rfl
   subst k4
   obtain ⟨_, e, r', k⟩ := k2.one1
   cases e
   obtain ⟨z, q1, q2, q3⟩ := k.frz
   have zs := (eff_gh hg.hp (frz_up q1 (show n ≤ fuelF by simp only [fuelF]; omega))).1
   have hd : tupD d = false ∧ ∀ id off len, d ≠ .ref id off len := by
    rcases fptr_cases k with ⟨_, rfl, _⟩ | ⟨_, _, _, _, _, _, _, _, rfl, _⟩ <;> exact ⟨rfl, fun _ _ _ e => by cases e⟩
   refine ⟨d, z.1, z.2, k1, by rw [exp1_frz hd.2, zs]; rfl, ?_, fun i hi => .inl (q3 i hi), hd.1⟩
   obtain ⟨ds, e, q4⟩ := q2.fptr
   rw [e]
   obtain ⟨a, a', rfl, q5, q6⟩ := All2.split q4
   refine ⟨a', ?_⟩
   refine Cl.plain rfl (Nr.mk_fptr ?_)
   rw [(conv_ok hx).1]
   exact All2.append q5 (by
    have : ∀ l : List D, All2 Nr l l := fun l => by
     induction l with
     | nil => trivial
     | cons a l ih => exact ⟨Nr.rfl' a, ih⟩
    exact this a')
  ·cases hx
 ·rename_i o p i j hr
  split at hx
  ·rename_i vs hc ho
   simp only [Bool.and_eq_true] at hc
   obtain rfl := Nat.eq_of_beq_eq_true hc.1
   obtain rfl := Nat.eq_of_beq_eq_true hc.2
   obtain ⟨d, ds, k1, k2, k3', k4⟩ := resT_ok h hr
   have k4 := k4 rfl
   subst k4
   obtain ⟨_, e, id, sz, es, c1, c2, c3, c4⟩ := k2.one1
   cases e
   obtain ⟨id', ds, e1, e2, k3, k9⟩ := h.hp _ _ ho
   rw [c1] at e1; cases e1
   rw [c2] at e2; cases e2
   have k4 := mkT_ok (R := FzR (Own ρ) g.hp) (fun k z => FzR.int k z) (fun v c x ds hg k => gA_ok h hg k) hx k3
   obtain ⟨z, q1, q2, q3⟩ := FzR.each k4
   have zz : (frz fuelF d).run g.hp = some (.fptr z.1, id :: z.2) := by
    rw [c4, Nat.zero_mul, Nat.zero_add]
    simp only [fuelF, frz, Eff.run, c2, Nat.zero_div, Nat.zero_mod, List.getElem?_cons_zero, List.drop_zero, run_bindE, q1, Option.bind_some]
   have zs := (eff_gh hg.hp zz).1
   refine ⟨d, .fptr z.1, id :: z.2, k1, ?_, ⟨[], by rw [List.drop_zero, List.append_nil]; exact Cl.plain rfl (Nr.mk_fptr q2)⟩, fun i hi => ?_, by rw [c4]; rfl⟩
   ·rw [exp1_frz (fun _ _ _ e => by rw [c4] at e; cases e), zs]; rfl
   ·simp at hi
    rcases hi with rfl | hi
    ·exact .inr ⟨o, [], c1⟩
    ·exact q3 i hi
  ·cases hx
 ·cases hx
theorem nodupA : ∀ {xs ys : List Nat}, nodup xs = true → nodup ys = true → (∀ x ∈ xs, x ∉ ys) → nodup (xs ++ ys) = true
 | [], _, _, h2, _ => h2
 | x :: xs, ys, h1, h2, h3 => by
  simp only [nodup, Bool.and_eq_true, Bool.not_eq_true', List.contains_eq_mem, decide_eq_false_iff_not, List.cons_append, List.mem_append, not_or] at h1 ⊢
  exact ⟨⟨h1.1, h3 x (by simp)⟩, nodupA h1.2 h2 fun y hy => h3 y (by simp [hy])⟩
theorem cutR_ne' {P : Nat → List Nat → Bool} {i : Nat} (h : Own (cutR ρ P) i) : ∃ o p, P o p = false ∧ ρ o p = some (some i) := by
 obtain ⟨o, p, h⟩ := h
 obtain ⟨h1, h2⟩ := cutR_some h
 exact ⟨o, p, h1, h2⟩
theorem nodupB_app : ∀ {xs ys : List Nat}, nodupB (xs ++ ys) = true → nodupB ys = true ∧ ∀ x ∈ xs, x ∉ ys
 | [], ys, h => ⟨h, by simp⟩
 | x :: xs, ys, h => by
  simp only [List.cons_append, nodupB, Bool.and_eq_true, Bool.not_eq_true', List.contains_eq_mem, decide_eq_false_iff_not, List.mem_append, not_or] at h
  obtain ⟨h1, h2⟩ := nodupB_app h.2
  exact ⟨h1, fun y hy => by
   rcases List.mem_cons.1 hy with rfl | hy
   ·exact h.1.2
   ·exact h2 y hy⟩
structure Xs (s g : St) (ρ : Rho) (os hd : List Nat) (ks : List RK) (ds xs : List D) (h rd : List Nat) : Prop where
 e : expL s.hp ds = some (xs, h, rd)
 tp : ∀ d ∈ ds, tupD d = false
 len : ds.length = ks.length
 no : ks.filter isCl = [] → (∀ id ∈ h, ∃ o ∈ hd, ρ o [] = some (some id)) ∧ nodup h = true ∧ ∀ i ∈ rd, dead g.hp i ∨ ∃ o p, ρ o p = some (some i) ∧ (os.contains o = false ∨ p ≠ [])
 pl : ks.all (plR (S := S)) = true → ks.filter isCl = [] → h = [] ∧ rd = []
 cl : ks.all (plR (S := S)) = true → ∀ k, ks.filter isCl = [k] → nodup h = true ∧ (h = [] ∨ rd = []) ∧ (∀ id ∈ h, dead g.hp id) ∧ ∀ i ∈ rd, dead g.hp i
theorem Xs.cons (hr : RelR fr b N ρ t g) {os hd1 hd : List Nat} {k : RK} {ks : List RK} {d y : D} {ds xs : List D} {h1 h rd1 rd : List Nat} (hn : ∀ x ∈ hd1, x ∉ hd) (hx : Xp (S := S) s g ρ os hd1 k d y h1 rd1) (h2 : Xs (S := S) s g ρ os hd ks ds xs h rd) :
  Xs (S := S) s g ρ os (hd1 ++ hd) (k :: ks) (d :: ds) (y :: xs) (h1 ++ h) (rd1 ++ rd) := by
 refine ⟨by simp only [expL, hx.e, h2.e, Option.bind_some], fun d' hd' => ?_, by simp [h2.len], fun hk => ?_, fun hp hk => ?_, fun hp k' hk => ?_⟩
 ·rcases List.mem_cons.1 hd' with rfl | hd'
  ·exact hx.tp
  ·exact h2.tp _ hd'
 ·cases hc : isCl k with
  | true => rw [List.filter_cons_of_pos hc] at hk; cases hk
  | false =>
   rw [List.filter_cons_of_neg (by rw [hc]; simp)] at hk
   obtain ⟨a1, a2, a3⟩ := hx.no hc
   obtain ⟨b1, b2, b3⟩ := h2.no hk
   refine ⟨fun id hid => ?_, nodupA a2 b2 fun x hx1 hx2 => ?_, fun i hi => ?_⟩
   ·rcases List.mem_append.1 hid with q | q
    ·obtain ⟨o, o1, o2⟩ := a1 id q
     exact ⟨o, by simp [o1], o2⟩
    ·obtain ⟨o, o1, o2⟩ := b1 id q
     exact ⟨o, by simp [o1], o2⟩
   ·obtain ⟨o, o1, o2⟩ := a1 x hx1
    obtain ⟨o', o3, o4⟩ := b1 x hx2
    obtain ⟨rfl, _⟩ := hr.inj _ _ _ _ _ o2 o4
    exact hn o o1 o3
   ·rcases List.mem_append.1 hi with q | q
    ·exact a3 i q
    ·exact b3 i q
 ·simp only [List.all_cons, Bool.and_eq_true] at hp
  cases hc : isCl k with
  | true => rw [List.filter_cons_of_pos hc] at hk; cases hk
  | false =>
   rw [List.filter_cons_of_neg (by rw [hc]; simp)] at hk
   obtain ⟨rfl, rfl⟩ := hx.pl hp.1 hc
   obtain ⟨rfl, rfl⟩ := h2.pl hp.2 hk
   exact ⟨rfl, rfl⟩
 ·simp only [List.all_cons, Bool.and_eq_true] at hp
  cases hc : isCl k with
  | true =>
   rw [List.filter_cons_of_pos hc] at hk
   injection hk with _ hk
   obtain ⟨rfl, rfl⟩ := h2.pl hp.2 hk
   simpa using hx.cl hc
  | false =>
   rw [List.filter_cons_of_neg (by rw [hc]; simp)] at hk
   obtain ⟨rfl, rfl⟩ := hx.pl hp.1 hc
   simpa using h2.cl hp.2 k' hk
theorem finR_ok (h : RelR fr b N ρ t g) {os : List Nat} (h' : RelR fr b N (cutR ρ (inP os)) (t.clear (inP os)) g) (hg : GhK s g) : ∀ {ks : List RK} {rs : List PR} {p : Flds S (rcs ks)}, nodupB (hands t ks rs) = true → finR t (t.clear (inP os)) ks rs = some p →
  ∃ ds xs hd rd, resL g rs = some ds ∧ Xs (S := S) s g ρ os (hands t ks rs) ks ds xs hd rd ∧ ResX ks p xs
 | [], [], p, _, hp => ⟨[], [], [], [], rfl, ⟨rfl, by simp, rfl, fun _ => ⟨by simp, rfl, by simp⟩, fun _ _ => ⟨rfl, rfl⟩, fun _ k hk => by cases hk⟩, rfl⟩
 | [], _ :: _, _, _, hp => by simp [finR] at hp
 | .val c :: ks, r :: rs, p, hn, hp => by
  simp only [finR] at hp
  split at hp
  ·rename_i x q hx hq
   cases hp
   obtain ⟨hn1, hn2⟩ := nodupB_app hn
   obtain ⟨ds, xs, hd, rd2, m1, m2, m3⟩ := finR_ok h h' hg hn1 hq
   obtain ⟨d, y, rd, k1, k2, k3, k4, k5, k6⟩ := finV_ok h' hg hx
   exact ⟨d :: ds, y :: xs, [] ++ hd, rd ++ rd2, by simp only [resL, k1, m1, Option.bind_some, Option.map_some], Xs.cons h hn2 ⟨k2, k5, fun _ => ⟨by simp, rfl, fun i hi => (k4 i hi).imp_right fun q => by
    obtain ⟨o, p, q1, q2⟩ := cutR_ne' q
    exact ⟨o, p, q2, .inl q1⟩⟩, fun hp _ => ⟨rfl, k6 hp⟩, fun q => by cases q⟩ m2, k3, m3⟩
  ·cases hp
 | .own c :: ks, r :: rs, p, hn, hp => by
  simp only [finR] at hp
  split at hp
  ·rename_i x q hx hq
   cases hp
   obtain ⟨hn1, hn2⟩ := nodupB_app hn
   obtain ⟨ds, xs, hd, rd2, m1, m2, m3⟩ := finR_ok h h' hg hn1 hq
   obtain ⟨d, y, hd1, rd, k1, k2, k3⟩ := finO_ok (os := os) h hg hx
   exact ⟨d :: ds, y :: xs, hd1 ++ hd, rd ++ rd2, by simp only [resL, k1, m1, Option.bind_some, Option.map_some], Xs.cons h hn2 k2 m2, k3, m3⟩
  ·cases hp
 | .cl c :: ks, r :: rs, p, hn, hp => by
  simp only [finR] at hp
  split at hp
  ·rename_i x q hx hq
   cases hp
   obtain ⟨hn1, hn2⟩ := nodupB_app hn
   obtain ⟨ds, xs, hd, rd2, m1, m2, m3⟩ := finR_ok h h' hg hn1 hq
   obtain ⟨d, y, hd1, rd, k1, k2, k3⟩ := finC_ok (os := os) (hd0 := hand1 t (.cl c) r) h hg hx
   exact ⟨d :: ds, y :: xs, hd1 ++ hd, rd ++ rd2, by simp only [resL, k1, m1, Option.bind_some, Option.map_some], Xs.cons h hn2 k2 m2, k3, m3⟩
  ·cases hp
 | .fp c :: ks, r :: rs, p, hn, hp => by
  simp only [finR] at hp
  split at hp
  ·rename_i x q hx hq
   cases hp
   obtain ⟨hn1, hn2⟩ := nodupB_app hn
   obtain ⟨ds, xs, hd, rd2, m1, m2, m3⟩ := finR_ok h h' hg hn1 hq
   obtain ⟨d, y, rd, k1, k2, k3, k4, k5⟩ := finP_ok h' hg hx
   exact ⟨d :: ds, y :: xs, [] ++ hd, rd ++ rd2, by simp only [resL, k1, m1, Option.bind_some, Option.map_some], Xs.cons h hn2 ⟨k2, k5, fun _ => ⟨by simp, rfl, fun i hi => (k4 i hi).imp_right fun q => by
    obtain ⟨o, p, q1, q2⟩ := cutR_ne' q
    exact ⟨o, p, q2, .inl q1⟩⟩, (fun hp _ => by cases hp), fun q => by cases q⟩ m2, k3, m3⟩
  ·cases hp
 | .val _ :: _, [], _, _, hp | .own _ :: _, [], _, _, hp | .cl _ :: _, [], _, _, hp | .fp _ :: _, [], _, _, hp => by simp [finR] at hp
theorem apart_of {xs ys : List Nat} (h : ∀ x ∈ xs, ∀ y ∈ ys, x ≠ y) : apart xs ys = true := by
 simp only [apart, List.all_eq_true, Bool.not_eq_true', List.contains_eq_mem, decide_eq_false_iff_not]
 exact fun x hx hy => h x hx x hy rfl
end
end Go.Pi
namespace Go.Pi
set_option linter.unusedVariables false
section
variable {S : Nat → Type} [Sg : Sig S] {ρ ρ' : Rho} {H H' : Heap} {fr : Fr} {b N : Nat} {t : TS S} {s g : St} {pr : Prog}
structure Outs (s g : St) (ρ : Rho) (ks : List RK) (rs : List PR) (p : Flds S (rcs ks)) (hs os : List Nat) (d : D) (xs : List D) (hd rd : List Nat) : Prop where
 res : resV s rs = some d
 tp : tupD d = tpR ks
 e : expL s.hp (comps d) = some (xs, hd, rd)
 nd : nodup hd = true
 ap : apart hd rd = true
 x : ResX ks p xs
 ids : ∀ id ∈ hd, (dead g.hp id ∧ ks.filter isCl ≠ []) ∨ ∃ o ∈ hs, ρ o [] = some (some id)
 rds : ∀ i ∈ rd, dead g.hp i ∨ ∃ o p, ρ o p = some (some i) ∧ (os.contains o = false ∨ p ≠ [])
theorem okR_cases {ks : List RK} (h : okR (S := S) ks = true) : ks.filter isCl = [] ∨ ∃ k, ks.filter isCl = [k] ∧ ks.all (plR (S := S)) = true := by
 unfold okR at h
 split at h
 ·exact .inl (by assumption)
 ·rename_i k hk
  exact .inr ⟨k, hk, h⟩
 ·cases h
theorem dead_not {H : Heap} {id : Nat} {sz : Nat} {es : List (List D)} (h : hat H id = .row sz es true) (k : dead H id) : False := by
 obtain ⟨_, _, k⟩ := k
 rw [h] at k
 cases k
theorem finT_ok (h : RelR fr b N ρ t g) (hg : GhK s g) {x : List Nat} {ks : List RK} {rs : List PR} {p : Flds S (rcs ks)} (hp : finT x ks rs t = some p) : ∃ d xs hd rd, Outs s g ρ ks rs p (hands t ks rs) (x ++ hands t ks rs) d xs hd rd := by
 unfold finT at hp
 split at hp
 ·rename_i hc
  simp only [Bool.and_eq_true] at hc
  obtain ⟨hn, hk⟩ := hc
  have h' := h.clear (P := inP (x ++ hands t ks rs)) (fun o p q => q)
  obtain ⟨ds, xs, hd, rd, k1, k2, k3⟩ := finR_ok h h' hg hn hp
  have live : ∀ {o p i}, ρ o p = some (some i) → dead g.hp i → False := fun e k => by
   obtain ⟨_, sz, es, q⟩ := h.liv _ _ _ e
   exact dead_not q k
  obtain ⟨c1, c2, c3, c4⟩ : nodup hd = true ∧ apart hd rd = true ∧ (∀ id ∈ hd, (dead g.hp id ∧ ks.filter isCl ≠ []) ∨ ∃ o ∈ hands t ks rs, ρ o [] = some (some id)) ∧ ∀ i ∈ rd, dead g.hp i ∨ ∃ o p, ρ o p = some (some i) ∧ ((x ++ hands t ks rs).contains o = false ∨ p ≠ []) := by
   rcases okR_cases hk with e | ⟨k, e, e2⟩
   ·obtain ⟨a1, a2, a3⟩ := k2.no e
    refine ⟨a2, apart_of fun i hi j hj e => ?_, fun id hid => .inr (a1 id hid), a3⟩
    subst e
    obtain ⟨o, o1, o2⟩ := a1 i hi
    rcases a3 i hj with q | ⟨o', p', q1, q2⟩
    ·exact live o2 q
    ·obtain ⟨rfl, rfl⟩ := h.inj _ _ _ _ _ o2 q1
     rcases q2 with q2 | q2
     ·simp [o1] at q2
     ·exact q2 rfl
   ·obtain ⟨a1, a2, a3, a4⟩ := k2.cl e2 k e
    refine ⟨a1, ?_, fun id hid => .inl ⟨a3 id hid, by rw [e]; simp⟩, fun i hi => .inl (a4 i hi)⟩
    rcases a2 with rfl | rfl
    ·rfl
    ·exact apart_of fun _ _ _ hj => nomatch hj
  have fin : ∀ d, comps d = ds → tupD d = tpR ks → resV s rs = some d → ∃ d xs hd rd, Outs s g ρ ks rs p (hands t ks rs) (x ++ hands t ks rs) d xs hd rd := fun d q1 q2 q3 =>
   ⟨d, xs, hd, rd, q3, q2, by rw [q1]; exact k2.e, c1, c2, k3, c3, c4⟩
  have hs := resL_gh hg k1
  have hl := k2.len
  match ks, ds, hs, hl, k2 with
  | [], [], hs, hl, k2 => exact fin (.tup []) rfl rfl (by simp only [resV, hs, Option.map_some])
  | [_], [d], hs, hl, k2 =>
   have hnt := k2.tp d (by simp)
   exact fin d (by cases d <;> first | rfl | cases hnt) hnt (by simp only [resV, hs, Option.map_some])
  | _ :: _ :: _, d :: d2 :: ds, hs, hl, k2 => exact fin (.tup (d :: d2 :: ds)) rfl rfl (by simp only [resV, hs, Option.map_some])
 ·cases hp
def enum {α : Type} : Nat → List α → List (Nat × α)
 | _, [] => []
 | i, v :: vs => (i, v) :: enum (i + 1) vs
theorem look_enum {α : Type} : ∀ {vs : List α} {i j : Nat} {v : α}, look (enum i vs) j = some v → ∃ k, j = i + k ∧ vs[k]? = some v
 | [], _, _, _, h => nomatch h
 | w :: vs, i, j, v, h => by
  simp only [enum, look] at h
  split at h
  ·rename_i e
   cases h
   exact ⟨0, (Nat.eq_of_beq_eq_true e).symm, rfl⟩
  ·obtain ⟨k, h1, h2⟩ := look_enum h
   exact ⟨k + 1, by omega, by simpa using h2⟩
def t0 (vs : List (Val S)) : TS S := ⟨enum 0 vs, [], 1, [], false⟩
def fr0 : Fr := ⟨fun _ => none, fun _ => 0⟩
theorem sl0 {vs : List (Val S)} {ds : List D} {ρ : Rho} {H : Heap} {k i : Nat} {v : Val S} (h : All2 (VS ρ H) vs ds) (hv : look (enum 0 vs) i = some v) : VS ρ H v ((ds ++ List.replicate k D.undef).getD i .undef) := by
 obtain ⟨j, e, hj⟩ := look_enum hv
 rw [Nat.zero_add] at e
 subst e
 have hl := h.len
 have hi := (List.getElem?_eq_some_iff.1 hj).1
 obtain ⟨d, h1, h2⟩ := h.get hj
 rw [List.getD_eq_getElem?_getD, List.getElem?_append_left (by omega), h1]
 exact h2
theorem RelR.t0 {vs : List (Val S)} {ds : List D} (hN : ds.length ≤ N) (h : All2 (VS noRho []) vs ds) : RelR fr0 0 N noRho (Pi.t0 vs) ⟨ds ++ List.replicate (N - ds.length) D.undef, []⟩ :=
 ⟨by simp; omega, fun i v hv => sl0 h hv, fun o ob ho => (by cases ho), fun _ _ _ _ _ e => (by cases e), fun _ _ _ e => (by cases e), fun _ _ _ => rfl, fun _ _ e => (by cases e), List.nodup_nil, fun _ hr => nomatch hr⟩
def endF (ks : List RK) (rs : List PR) (ex : Ex) (t : TS S) : Option (Flds S (rcs ks)) := match ex with
 | .exit _ => none
 | _ => finT [] ks rs t
def bodyF (Γ : List (Entry S pr)) (N k : Nat) (c : AC) (ps : List PK) (ks : List RK) (rs : List PR) (p : Flds S (pcs ps)) : Option (Flds S (rcs ks)) := run Γ N k c (t0 (pVals ps p)) (endF ks rs)
theorem pVals_len : ∀ {ps : List PK} {p : Flds S (pcs ps)}, (pVals ps p).length = ps.length
 | [], _ => rfl
 | .val _ :: ps, p => congrArg (· + 1) (pVals_len (ps := ps) (p := p.2))
 | .ptr _ :: ps, p => congrArg (· + 1) (pVals_len (ps := ps) (p := p.2))
 | .fn _ :: ps, p => congrArg (· + 1) (pVals_len (ps := ps) (p := p))
theorem FOk.of {f : Nat} {pf : PF} {Γ : List (Entry S pr)} {k : Nat} {c : AC} {ps : List PK} {ks : List RK} (hf : pr f = some pf) (ho : pf.orc = none) (hb : pf.body = c.er) (hN : Nat.ble ps.length pf.ntmps = true) :
  FOk pr f ps ks (bodyF Γ pf.ntmps k c ps ks pf.results) := by
 intro p r hr ds hds
 refine Runs.body hf ho ?_
 have hl := hds.len
 rw [pVals_len] at hl
 have hN := Nat.le_of_ble_eq_true hN
 rw [hb]
 refine (run_ok c hr (RelR.t0 (by omega) hds)).mono ?_
 rintro ex s ⟨t', k1, g, ρ, k2, k3⟩
 have key : finT [] ks pf.results t' = some r → ∃ d, resV s pf.results = some d ∧ tupD d = tpR ks ∧ ∃ xs hs rd, expL s.hp (comps d) = some (xs, hs, rd) ∧ nodup hs = true ∧ apart hs rd = true ∧ ResX ks r xs := fun q => by
  obtain ⟨d, xs, hd, rd, o⟩ := finT_ok k3 k2 q
  exact ⟨d, o.res, o.tp, xs, hd, rd, o.e, o.nd, o.ap, o.x⟩
 cases ex with
 | exit i => cases k1
 | normal => exact ⟨fun _ e => (by cases e), key k1⟩
 | ret => exact ⟨fun _ e => (by cases e), key k1⟩
def tL (c : Code) (a : T S c) (vs : List (Val S)) : TS S := ⟨enum 0 (.ptr 0 [] 0 0 :: vs), [(0, .box (some 0) [.one 1 c a])], 1, [], false⟩
def endL (c : Code) (ks : List RK) (rs : List PR) (ex : Ex) (t : TS S) : Option (T S c × Flds S (rcs ks)) := match ex with
 | .exit _ => none
 | _ => match look t.hp 0 with
  | some (.box (some n) vs) => (match mk 11 c vs, finT [0] ks rs t, ks.all (fun k => !isCl k) && !(hands t ks rs).contains 0 with
   | some a, some p, true => some (a, p)
   | _, _, _ => none)
  | _ => none
def bodyL (Γ : List (Entry S pr)) (N k : Nat) (cd : AC) (c : Code) (ps : List PK) (ks : List RK) (rs : List PR) (p : T S c × Flds S (pcs ps)) : Option (T S c × Flds S (rcs ks)) := run Γ N k cd (tL c p.1 (pVals ps p.2)) (endL c ks rs)
def rhoL : Rho := fun o p => match o, p with
 | 0, [] => some (some 0)
 | _, _ => none
theorem rhoL_some {o : Nat} {p : List Nat} {x : Option Nat} (h : rhoL o p = some x) : o = 0 ∧ p = [] ∧ x = some 0 := by
 unfold rhoL at h
 split at h
 ·cases h; exact ⟨rfl, rfl, rfl⟩
 ·cases h
theorem RelR.tL {c : Code} {a : T S c} {cs : List D} {vs : List (Val S)} {ds : List D} (hW : 0 < W (S := S) c) (hN : ds.length + 1 ≤ N) (hc : All2 (Cl [] 1) (en c a) cs) (h : All2 (VS noRho []) vs ds) :
  RelR fr0 0 N rhoL (Pi.tL c a vs) ⟨(D.ptr 0 0 :: ds) ++ List.replicate (N - (ds.length + 1)) D.undef, [.row (W (S := S) c) [cs] true]⟩ := by
 refine ⟨by simp; omega, fun i v hv => sl0 (vs := .ptr 0 [] 0 0 :: vs) ⟨?_, h.mono fun _ _ _ q => q.fromNo⟩ hv, fun o ob ho => ?_, fun o p o' p' _ e1 e2 => ?_, fun o p id e => ?_, fun o p ho => ?_, fun _ _ e => (by cases e), List.nodup_nil, fun _ hr => nomatch hr⟩
 ·exact ⟨0, _, [cs], rfl, rfl, hW, by simp⟩
 ·simp only [Pi.tL, look] at ho
  split at ho
  ·rename_i e
   cases ho
   obtain rfl := Nat.eq_of_beq_eq_true e
   exact ⟨0, cs, rfl, by simp [widths, width, hat], VCs.single (cls_heap (HLe.nil _) hc), rfl⟩
  ·cases ho
 ·obtain ⟨rfl, rfl, _⟩ := rhoL_some e1
  obtain ⟨rfl, rfl, _⟩ := rhoL_some e2
  exact ⟨rfl, rfl⟩
 ·obtain ⟨rfl, rfl, e⟩ := rhoL_some e
  cases e
  exact ⟨rfl, _, _, rfl⟩
 ·cases e : rhoL o p with
  | none => rfl
  | some x =>
   obtain ⟨rfl, _⟩ := rhoL_some e
   exact absurd ho (by simp [Pi.tL])
theorem LOk.of {f : Nat} {pf : PF} {Γ : List (Entry S pr)} {k : Nat} {cd : AC} {c : Code} {ps : List PK} {ks : List RK} (hf : pr f = some pf) (ho : pf.orc = none) (hb : pf.body = cd.er) (hN : Nat.ble (ps.length + 1) pf.ntmps = true) (hW : Nat.blt 0 (W (S := S) c) = true) :
  LOk pr f c ps ks (bodyL Γ pf.ntmps k cd c ps ks pf.results) := by
 intro p r hr cs ds hcs hds
 refine Runs.body hf ho ?_
 have hl := hds.len
 rw [pVals_len] at hl
 have hN := Nat.le_of_ble_eq_true hN
 rw [hb]
 have hW : 0 < W (S := S) c := by simpa using hW
 refine (run_ok cd hr (RelR.tL hW (by omega) hcs hds)).mono ?_
 rintro ex s ⟨t', k1, g, ρ, k2, k3⟩
 have key : endL c ks pf.results .normal t' = some r → ∃ d, resV s pf.results = some d ∧ tupD d = tpR ks ∧ ∃ xs hs rd cs2 ry, expL s.hp (comps d) = some (xs, hs, rd) ∧ nodup hs = true ∧ apart hs rd = true ∧ ResX ks r.2 xs ∧
  expB s.hp 0 [(0, true)] = some ([(0, .row (W (S := S) c) [cs2] true)], ry) ∧ All2 (Cl [] 1) (en c r.1) cs2 ∧ apart hs ry = true ∧ apart hs [0] = true ∧ apart [0] rd = true ∧ apart [0] ry = true := fun q => by
  simp only [endL] at q
  split at q
  ·rename_i n vs hb
   split at q
   ·rename_i a p' ha hp' hc
    cases q
    simp only [Bool.and_eq_true, Bool.not_eq_true'] at hc
    obtain ⟨hc1, hc2⟩ := hc
    obtain ⟨d, xs, hd, rd, o⟩ := finT_ok k3 k2 hp'
    obtain ⟨id, dc, b1, b2, b3, b4⟩ := k3.hp _ _ hb
    have b4 : id = 0 := b4
    subst b4
    have hmk := mk_ok (by decide) ha b3
    have hw : widths vs = W (S := S) c := by rw [← b3.len, ← hmk.len, encs_len]
    rw [hw] at b2
    obtain ⟨z, z1, z2, z3⟩ := cls_each (P := fun _ => False) (Nat.le_refl 11) hmk
    have z3 : ∀ i ∈ z.2, dead g.hp i := fun i hi => (z3 i hi).elim (fun q => q) fun q => q.elim
    have zE : (eachE (frz fuelF) [dc]).run g.hp = some ([z.1], z.2) := by
     have : (eachE (frz 11) [dc]).run g.hp = some ([z.1], z.2) := by simp [eachE, run_bindE, z1, Eff.run]
     exact eachE_up (by decide) this
    have zs := (eff_gh k2.hp zE).1
    have b2s : hat s.hp 0 = .row (W (S := S) c) [dc] true := by
     rcases k2.hp.2 0 with q | ⟨_, _, _, q⟩
     ·rw [← q]; exact b2
     ·rw [b2] at q; cases q
    have nocl : ks.filter isCl = [] := by
     rw [List.filter_eq_nil_iff]
     intro k hk
     have := List.all_eq_true.1 hc1 k hk
     simpa using this
    have live : ∀ {o p i}, ρ o p = some (some i) → dead g.hp i → False := fun e k => by
     obtain ⟨_, sz, es, q⟩ := k3.liv _ _ _ e
     exact dead_not q k
    have hids : ∀ i ∈ hd, ∃ q ∈ hands t' ks pf.results, ρ q [] = some (some i) := fun i hi => by
     rcases o.ids i hi with ⟨_, q⟩ | q
     ·exact absurd nocl q
     ·exact q
    refine ⟨d, o.res, o.tp, xs, hd, rd, z.1, z.2, o.e, o.nd, o.ap, o.x, ?_, nrs_cl z2, ?_, ?_, ?_, ?_⟩
    ·simp only [expB, b2s, zs, Option.bind_some, List.append_nil]
    ·refine apart_of fun i hi j hj e => ?_
     subst e
     obtain ⟨q, _, q2⟩ := hids i hi
     exact live q2 (z3 i hj)
    ·refine apart_of fun i hi j hj e => ?_
     subst e
     simp only [List.mem_singleton] at hj
     subst hj
     obtain ⟨q, q1, q2⟩ := hids 0 hi
     obtain ⟨rfl, _⟩ := k3.inj _ _ _ _ _ q2 b1
     simp [q1] at hc2
    ·refine apart_of fun i hi j hj e => ?_
     subst e
     simp only [List.mem_singleton] at hi
     subst hi
     rcases o.rds 0 hj with q | ⟨o', p'', q1, q2⟩
     ·exact live b1 q
     ·obtain ⟨rfl, rfl⟩ := k3.inj _ _ _ _ _ q1 b1
      rcases q2 with q2 | q2
      ·simp at q2
      ·exact q2 rfl
    ·refine apart_of fun i hi j hj e => ?_
     subst e
     simp only [List.mem_singleton] at hi
     subst hi
     exact live b1 (z3 0 hj)
   ·cases q
  ·cases q
 cases ex with
 | exit i => cases k1
 | normal => exact ⟨fun _ e => (by cases e), key k1⟩
 | ret => exact ⟨fun _ e => (by cases e), key k1⟩
end
end Go.Pi
namespace Go.Pi
set_option linter.unusedVariables false
def slimO (o : PO) : PO := ⟨o.dst, o.op, o.guard, [], o.res⟩
def slim : PC → PC
 | .region false k ops => .region false k (ops.map slimO)
 | .seq a b => .seq (slim a) (slim b)
 | .cond c x y => .cond c (slim x) (slim y)
 | .block id c => .block id (slim c)
 | .loop c => .loop (slim c)
 | c => c
def slimF (f : PF) : PF := ⟨f.ntmps, f.results, slim f.body, f.orc⟩
theorem seqR_slim {c : CallF} {b : Nat} : ∀ {ops : List PO} {s : St}, seqR c b (ops.map slimO) s = seqR c b ops s
 | [], _ => rfl
 | o :: ops, s => by
  have e : stepO c b (slimO o) s = stepO c b o s := rfl
  simp only [List.map_cons, seqR, e]
  congr 1
  funext s'
  exact seqR_slim
theorem code_slim {c : CallF} {n : Nat} : ∀ {q : PC} {s : St}, code c n (slim q) s = code c n q s
 | .skip, _ => rfl
 | .ret, _ => rfl
 | .exit _, _ => rfl
 | .region false k ops, s => by simp only [slim, code, Bool.false_eq_true, if_false, seqR_slim]
 | .region true k ops, s => rfl
 | .seq a b, s => by
  simp only [slim, code, code_slim (q := a)]
  split
  ·exact code_slim
  ·rfl
 | .cond q x y, s => by simp only [slim, code, code_slim (q := x), code_slim (q := y)]
 | .block id q, s => by simp only [slim, code, code_slim (q := q)]
 | .loop q, s => by
  simp only [slim, code]
  congr 1
  funext s
  exact code_slim
theorem runN_slim {P P' : Prog} (hp : ∀ f, P' f = (P f).map slimF) : ∀ n, runN P' n = runN P n
 | 0 => rfl
 | n + 1 => by
  funext f a H
  simp only [runN, hp, runN_slim hp n]
  cases P f with
  | none => rfl
  | some pf =>
   simp only [Option.map_some, slimF]
   cases pf.orc with
   | some g => rfl
   | none => simp only [code_slim]
theorem Runs.slim {P P' : Prog} (hp : ∀ f, P' f = (P f).map slimF) {f : Nat} {a : List D} {H : Heap} {Q : D → Heap → Prop} (h : Runs P' f a H Q) : Runs P f a H Q := by
 obtain ⟨n, d, H', h1, h2⟩ := h
 exact ⟨n, d, H', by rw [← runN_slim hp n]; exact h1, h2⟩
end Go.Pi
namespace Go.Pi
set_option linter.unusedVariables false
section
variable {S : Nat → Type} [Sg : Sig S] {ρ ρ' : Rho} {H H' : Heap} {fr : Fr} {b N : Nat} {t : TS S} {s g : St} {α : Type} {pr : Prog}
theorem RelR.pad {m : Nat} {args : List D} (h : RelR fr b m ρ t ⟨args, H⟩) (k : Nat) : RelR fr b (args.length + k) ρ t ⟨args ++ List.replicate k .undef, H⟩ := by
 refine ⟨by simp, fun i v hv => ?_, h.hp, h.inj, h.liv, h.nxt, h.frm, h.avl⟩
 have := h.sl i v hv
 have e : (args ++ List.replicate k D.undef).getD i .undef = args.getD i .undef := by
  rw [List.getD_eq_getElem?_getD, List.getD_eq_getElem?_getD]
  rcases Nat.lt_or_ge i args.length with q | q
  ·rw [List.getElem?_append_left q]
  ·rw [List.getElem?_append_right q, List.getElem?_eq_none q]
   rw [List.getElem?_replicate]
   split <;> rfl
 show VS ρ H v ((args ++ List.replicate k D.undef).getD i .undef)
 rw [e]
 exact this
def okV : Val S → Bool
 | .undef => false
 | .tup _ => false
 | .agg _ => false
 | .one _ c _ => !isAgg c && Nat.beq (W (S := S) c) 1
 | _ => true
theorem okV_ok {v : Val S} {ds : List D} (hv : okV v = true) (h : VC ρ H v ds) : ∃ d, ds = [d] ∧ VS ρ H v d ∧ tupD d = false := by
 cases v with
 | undef => cases hv
 | tup _ => cases hv
 | agg _ => cases hv
 | one n c x =>
  simp only [okV, Bool.and_eq_true, Bool.not_eq_true'] at hv
  have hl : ds.length = 1 := by
   have h' : All2 (Cl H n) (en c x) ds := h
   have := Nat.eq_of_beq_eq_true hv.2
   rw [← h'.len, encs_len]; exact this
  match ds, hl, h with
  | [d], _, h =>
   refine ⟨d, rfl, by simp only [VS, VSx, hv.1]; exact h, ?_⟩
   have h : All2 (Cl H n) (en c x) [d] := h
   match hq : en c x, h with
   | [a], h =>
    have := cl_one (en_cell c x a (by rw [hq]; simp)) h.1
    cases d <;> first | rfl | cases this
 | fp n c x j =>
  obtain ⟨d, rfl, h⟩ := h
  refine ⟨d, rfl, h, ?_⟩
  obtain ⟨r, h⟩ := h
  have := fp_one h
  cases d <;> first | rfl | cases this
 | whole o p => obtain ⟨d, rfl, h⟩ := h; refine ⟨d, rfl, h, ?_⟩; rcases h with ⟨_, _, _, _, _, rfl⟩ | ⟨_, rfl⟩ <;> rfl
 | win o p off len => obtain ⟨d, rfl, h⟩ := h; refine ⟨d, rfl, h, ?_⟩; rcases h with ⟨_, _, _, _, _, _, rfl⟩ | ⟨_, _, _, rfl⟩ <;> rfl
 | ptr o p i j => obtain ⟨d, rfl, h⟩ := h; refine ⟨d, rfl, h, ?_⟩; obtain ⟨_, _, _, _, _, _, rfl⟩ := h; rfl
 | pa o j z len => obtain ⟨d, rfl, h⟩ := h; refine ⟨d, rfl, h, ?_⟩; obtain ⟨_, _, _, _, _, _, _, rfl⟩ := h; rfl
 | _ => obtain ⟨d, rfl, h⟩ := h; refine ⟨d, rfl, h, ?_⟩; cases h; rfl
def slR (t : TS S) (r : PR) : Option (Val S) := match resT t r with
 | some (true, vs) => some (.agg vs)
 | some (false, [v]) => (match okV v with
  | true => some v
  | false => none)
 | _ => none
theorem slR_ok (h : RelR fr b N ρ t g) {r : PR} {v : Val S} (hr : slR t r = some v) : ∃ d, res1 g r = some d ∧ VS ρ g.hp v d ∧ tupD d = false := by
 unfold slR at hr
 split at hr
 ·rename_i vs q
  cases hr
  obtain ⟨d, ds, k1, k2, k3, _⟩ := resT_ok h q
  obtain rfl := k3 rfl
  exact ⟨_, k1, ⟨ds, rfl, k2⟩, rfl⟩
 ·rename_i w q
  split at hr
  ·rename_i hw
   cases hr
   obtain ⟨d, ds, k1, k2, _, k4⟩ := resT_ok h q
   obtain rfl := k4 rfl
   obtain ⟨a, b', e, q1, q2⟩ := k2
   have q2 : b' = [] := q2
   subst q2
   rw [List.append_nil] at e
   subst e
   obtain ⟨d', e, k5, k6⟩ := okV_ok hw q1
   cases e
   exact ⟨d, k1, k5, k6⟩
  ·cases hr
 ·cases hr
def slRs (t : TS S) : List PR → Option (List (Val S))
 | [] => some []
 | r :: rs => match slR t r with
  | some v => (match slRs t rs with
   | some vs => some (v :: vs)
   | none => none)
  | none => none
theorem slRs_ok (h : RelR fr b N ρ t g) : ∀ {rs : List PR} {vs : List (Val S)}, slRs t rs = some vs → ∃ ds, resL g rs = some ds ∧ All2 (VS ρ g.hp) vs ds ∧ (∀ d ∈ ds, tupD d = false) ∧ ds.length = rs.length
 | [], _, e => by cases e; exact ⟨[], rfl, trivial, by simp, rfl⟩
 | r :: rs, vs, e => by
  simp only [slRs] at e
  split at e
  ·rename_i v hv
   split at e
   ·rename_i us hu
    cases e
    obtain ⟨d, k1, k2, k3⟩ := slR_ok h hv
    obtain ⟨ds, k4, k5, k6, k7⟩ := slRs_ok h hu
    refine ⟨d :: ds, by simp only [resL, k1, k4, Option.bind_some, Option.map_some], ⟨k2, k5⟩, fun x hx => ?_, by simp [k7]⟩
    rcases List.mem_cons.mp hx with rfl | hx
    ·exact k3
    ·exact k6 x hx
   ·cases e
  ·cases e
def endH (sO : ShapeK) (rs : List PR) (ex : Ex) (t : TS S) : Option (Flds S sO.cs) := match ex with
 | .exit _ => none
 | _ => (match slRs t rs with
  | some vs => closeSh sO { t with sl := enumV 0 vs, av := [] }
  | none => none)
def bodyH (Γ : List (Entry S pr)) (N k : Nat) (c : AC) (sI sO : ShapeK) (rs : List PR) (p : Flds S sI.cs) : Option (Flds S sO.cs) := run Γ N k c (openSh sI p) (endH sO rs)
theorem HOk.of {f : Nat} {pf : PF} {Γ : List (Entry S pr)} {k : Nat} {c : AC} {sI sO : ShapeK} (hf : pr f = some pf) (ho : pf.orc = none) (hb : pf.body = c.er) (hN : Nat.ble sI.sl.length pf.ntmps = true) (hO : Nat.beq sO.sl.length pf.results.length = true) :
  HOk pr f sI sO (bodyH Γ pf.ntmps k c sI sO pf.results) := by
 intro p r hr fr ρ args H hl h
 refine Runs.body hf ho ?_
 have hN := Nat.le_of_ble_eq_true hN
 have hO := Nat.eq_of_beq_eq_true hO
 rw [hb]
 have h0 := h.pad (pf.ntmps - args.length)
 rw [show args.length + (pf.ntmps - args.length) = pf.ntmps by omega] at h0
 refine (run_ok c hr h0).mono ?_
 rintro ex s ⟨t', k1, g, ρ1, k2, k3⟩
 have key : endH sO pf.results .normal t' = some r → ∃ d, resV s pf.results = some d ∧ tupD d = tpN sO.sl.length ∧ ∃ g' ρ', GhK ⟨comps d, s.hp⟩ g' ∧ RelR fr 0 sO.sl.length ρ' (openSh sO r) g' := fun q => by
  simp only [endH] at q
  split at q
  ·rename_i vs hvs
   obtain ⟨ds, a1, a2, a3, a4⟩ := slRs_ok k3 hvs
   have a1' := resL_gh k2 a1
   have h4 : RelR fr 0 ds.length ρ1 { t' with sl := enumV 0 vs, av := [] } ⟨ds, g.hp⟩ := by
    refine ⟨rfl, fun i v hv => ?_, k3.hp, k3.inj, k3.liv, k3.nxt, k3.frm, List.nodup_nil, fun _ hr => nomatch hr⟩
    obtain ⟨j, e, hj⟩ := look_enumV hv
    rw [Nat.zero_add] at e
    subst e
    obtain ⟨d, h2, h3⟩ := a2.get hj
    show VS ρ1 g.hp v (ds.getD i .undef)
    rw [List.getD_eq_getElem?_getD, h2]
    exact h3
   obtain ⟨ρ', h5⟩ := h4.closeSh q
   rw [a4, ← hO] at h5
   have fin : ∀ d, comps d = ds → tupD d = tpN sO.sl.length → resV s pf.results = some d → ∃ d, resV s pf.results = some d ∧ tupD d = tpN sO.sl.length ∧ ∃ g' ρ', GhK ⟨comps d, s.hp⟩ g' ∧ RelR fr 0 sO.sl.length ρ' (openSh sO r) g' :=
    fun d q1 q2 q3 => ⟨d, q3, q2, ⟨ds, g.hp⟩, ρ', ⟨q1, k2.hp⟩, h5⟩
   have hn : sO.sl.length = ds.length := by rw [hO, a4]
   match ds, a1', a3, hn, fin with
   | [], a1', a3, hn, fin => exact fin (.tup []) rfl (by rw [hn]; rfl) (by simp only [resV, a1', Option.map_some])
   | [d], a1', a3, hn, fin =>
    have hnt := a3 d (by simp)
    exact fin d (by cases d <;> first | rfl | cases hnt) (by rw [hn]; exact hnt) (by simp only [resV, a1', Option.map_some])
   | d :: d2 :: ds, a1', a3, hn, fin => exact fin (.tup (d :: d2 :: ds)) rfl (by rw [hn]; rfl) (by simp only [resV, a1', Option.map_some])
  ·cases q
 cases ex with
 | exit i => cases k1
 | normal => exact ⟨fun _ e => (by cases e), key k1⟩
 | ret => exact ⟨fun _ e => (by cases e), key k1⟩
end
end Go.Pi
