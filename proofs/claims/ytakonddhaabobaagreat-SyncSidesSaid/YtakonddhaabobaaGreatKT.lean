import Derived.Test.YtakonddhaabobaaGreatKN
set_option linter.all false
namespace Go.Pi
set_option linter.unusedVariables false
section
variable {S : Nat → Type} [Sg : Sig S] {ρ ρ' : Rho} {H H' : Heap} {fr : Fr} {b N : Nat} {t : TS S} {s g : St} {α : Type} {pr : Prog}
def scC : Nat → Code → Bool
 | 0, _ => false
 | _ + 1, .list _ => false
 | _ + 1, .own _ => false
 | f + 1, .st i => (Sg.fields i).all (scC f)
 | _ + 1, _ => true
theorem scC_ok : ∀ {f : Nat} {c : Code} {v : T S c}, scC (S := S) f c = true → ∀ d ∈ en c v, sc d = true ∧ scal d = true
 | 0, _, _, h => nomatch h
 | f + 1, .int _, v, _ => fun d hd => by simp only [encs, List.mem_singleton] at hd; subst hd; exact ⟨rfl, rfl⟩
 | f + 1, .bool, v, _ => fun d hd => by simp only [encs, List.mem_singleton] at hd; subst hd; exact ⟨rfl, rfl⟩
 | f + 1, .flt, v, _ => fun d hd => by simp only [encs, List.mem_singleton] at hd; subst hd; exact ⟨rfl, rfl⟩
 | f + 1, .str, v, _ => fun d hd => by simp only [encs, List.mem_singleton] at hd; subst hd; exact ⟨rfl, rfl⟩
 | f + 1, .arr _ _, v, _ => fun d hd => by obtain ⟨z, _, rfl⟩ := List.mem_map.mp hd; exact ⟨rfl, rfl⟩
 | f + 1, .st i, v, h => fun d hd => by
  have hd : d ∈ Sg.Dd i v := hd
  rw [Sg.hD] at hd
  have h : (Sg.fields i).all (scC (S := S) f) = true := h
  generalize Sg.split i v = p at hd
  generalize Sg.fields i = cs at p h
  induction cs with
  | nil => cases hd
  | cons c cs ih =>
   simp only [List.all_cons, Bool.and_eq_true] at h
   rcases List.mem_append.mp hd with hd | hd
   ·exact scC_ok h.1 d hd
   ·first | exact ih p.2 h.2 hd | exact ih p.2 hd h.2
 | f + 1, .list _, _, h => nomatch h
 | f + 1, .own _, _, h => nomatch h
def scR : RK → Bool
 | .val c => scC (S := S) 9 c
 | .own c => scC (S := S) 9 c
 | _ => false
def keeps (rs : List RK) : Bool := rs.all (scR (S := S))
def valR : RK → Bool
 | .val _ => true
 | .fp _ => true
 | _ => false
theorem sc_eq {n : Nat} {G : Heap} : ∀ {cs ds : List D}, (∀ d ∈ cs, sc d = true ∧ scal d = true) → All2 (Cl G n) cs ds → (ds.all scal) = true
 | [], [], _, _ => rfl
 | c :: cs, d :: ds, h, k => by
  have := k.1.sc (h c (by simp)).1
  subst this
  simp only [List.all_cons, (h d (by simp)).2, Bool.true_and]
  exact sc_eq (fun x hx => h x (by simp [hx])) k.2
 | [], _ :: _, _, k | _ :: _, [], _, k => k.elim
theorem scal_val {c : Code} {v : T S c} {x : D} (h : scC (S := S) 9 c = true) (k : VS noRho [] (.one 1 c v) x) : scalV x = true := by
 simp only [VS, VSx] at k
 split at k
 ·obtain ⟨ds, rfl, k⟩ := k
  exact sc_eq (scC_ok h) k
 ·have := sc_eq (scC_ok h) k
  simp only [List.all_cons, List.all_nil, Bool.and_true] at this
  cases x <;> first | exact this | cases this
theorem keeps_scal : ∀ {rs : List RK} {p : Flds S (rcs rs)} {xs : List D}, keeps (S := S) rs = true → ResX rs p xs → (xs.all scalV) = true
 | [], _, _, _, h => by rw [show _ = _ from h]; rfl
 | .val c :: rs, p, x :: xs, hk, h => by
  simp only [keeps, List.all_cons, Bool.and_eq_true] at hk
  simp only [List.all_cons, Bool.and_eq_true]
  exact ⟨scal_val hk.1 h.1, keeps_scal hk.2 h.2⟩
 | .own c :: rs, p, x :: xs, hk, h => by
  simp only [keeps, List.all_cons, Bool.and_eq_true] at hk
  simp only [List.all_cons, Bool.and_eq_true]
  refine ⟨?_, keeps_scal hk.2 h.2⟩
  rcases h.1 with ⟨rfl, _⟩ | ⟨es, rfl, hes⟩
  ·rfl
  ·simp only [scalV, List.all_eq_true]
   intro e he
   obtain ⟨i, hi, rfl⟩ := List.mem_iff_getElem.mp he
   obtain ⟨d', h1, h2⟩ := hes.2 i (p.1[i]'(by rw [← hes.1]; exact hi)) (List.getElem?_eq_getElem _)
   rw [List.getElem?_eq_getElem hi] at h1
   cases h1
   exact List.all_eq_true.mp (sc_eq (scC_ok hk.1) h2)
 | .cl c :: rs, p, xs, hk, h => by simp [keeps, scR] at hk
 | .fp c :: rs, p, xs, hk, h => by simp [keeps, scR] at hk
 | .val _ :: _, _, [], _, h | .own _ :: _, _, [], _, h => h.elim
theorem ResX.len : ∀ {rs : List RK} {p : Flds S (rcs rs)} {xs : List D}, ResX rs p xs → xs.length = rs.length
 | [], _, _, h => by rw [show _ = _ from h]; rfl
 | .val _ :: rs, p, x :: xs, h | .own _ :: rs, p, x :: xs, h | .cl _ :: rs, p, x :: xs, h | .fp _ :: rs, p, x :: xs, h => by rw [List.length_cons, List.length_cons, ResX.len h.2]
 | .val _ :: _, _, [], h | .own _ :: _, _, [], h | .cl _ :: _, _, [], h | .fp _ :: _, _, [], h => h.elim
theorem val_ws : ∀ {rs : List RK} {p : Flds S (rcs rs)} {xs : List D} {r : Nat}, rs.all valR = true → ResX rs p xs → (impL r xs).2 = []
 | [], _, _, r, _, h => by rw [show _ = _ from h]; rfl
 | .val c :: rs, p, x :: xs, r, hk, h => by
  simp only [List.all_cons, Bool.and_eq_true] at hk
  have e : imp1 r x = (x, []) := imp1_no fun sz es e => by
   have := h.1
   rw [e] at this
   exact this.notown
  simp only [impL, e, List.nil_append]
  exact val_ws hk.2 h.2
 | .fp c :: rs, p, x :: xs, r, hk, h => by
  simp only [List.all_cons, Bool.and_eq_true] at hk
  have e : imp1 r x = (x, []) := imp1_no fun sz es e => by
   obtain ⟨q, hq⟩ := h.1.fp
   rw [e] at hq
   have := fp_one hq
   cases this
  simp only [impL, e, List.nil_append]
  exact val_ws hk.2 h.2
 | .own _ :: _, _, _, _, hk, _ => by simp [valR] at hk
 | .cl _ :: _, _, _, _, hk, _ => by simp [valR] at hk
 | .val _ :: _, _, [], _, _, h | .fp _ :: _, _, [], _, _, h => h.elim
def retT (rs : List RK) (vs : List (Val S)) : Val S := match tpR rs with
 | true => .tup vs
 | false => vs.headD .undef
theorem ret_ok {rs : List RK} {vs : List (Val S)} {xs : List D} {d : D} (ht : tupD d = tpR rs) (hl : xs.length = rs.length) (h : All2 (VSx ρ H) vs xs) : VS ρ H (retT rs vs) (recomp d xs) := by
 unfold retT
 cases htp : tpR rs with
 | true =>
  rw [htp] at ht
  cases d <;> first | exact ⟨_, rfl, h⟩ | cases ht
 | false =>
  rw [htp] at ht
  match rs, htp with
  | [_], _ =>
   match xs, hl with
   | [x], _ =>
    cases vs with
    | nil => exact h.elim
    | cons v vs =>
     have e : recomp d [x] = x := by cases d <;> first | rfl | cases ht
     rw [e]
     exact h.1.toVS
theorem hat_doWs {j : Nat} : ∀ {ws : List (Nat × Blk)} {H : Heap}, (∀ j' ∈ ws.map (·.1), j ≠ j') → hat (doWs H ws) j = hat H j
 | [], H, _ => rfl
 | u :: us, H, hu => by
  show hat (doWs (H.set u.1 u.2) us) j = _
  rw [hat_doWs (H := H.set u.1 u.2) fun j' hj' => hu j' (by simp at hj' ⊢; exact .inr hj')]
  unfold hat
  rw [List.getD_eq_getElem?_getD, List.getD_eq_getElem?_getD, List.getElem?_set_ne (fun e => hu u.1 (by simp) e.symm)]
theorem modify_dead {H : Heap} {id : Nat} (h : dead H id) : H.modify id Go.Pi.freeze = H := by
 obtain ⟨sz, es, hd⟩ := h
 refine List.ext_getElem? fun j => ?_
 rw [List.getElem?_modify]
 by_cases e : id = j
 ·subst e
  unfold hat at hd
  rw [List.getD_eq_getElem?_getD] at hd
  cases hj : H[id]? with
  | none => rfl
  | some k =>
   rw [hj] at hd
   simp at hd
   subst hd
   simp [Go.Pi.freeze]
 ·simp only [e, if_false]
  cases H[j]? <;> rfl
theorem doFz_dead {H : Heap} : ∀ {l : List Nat}, (∀ j ∈ l, dead H j) → doFz H l = H
 | [], _ => rfl
 | i :: l, h => by
  show doFz (H.modify i Go.Pi.freeze) l = H
  rw [modify_dead (h i (by simp))]
  exact doFz_dead fun j hj => h j (by simp [hj])
theorem newL_run {H : Heap} {e : Eff Out} : ∀ {is : List Nat}, (∀ i ∈ is, hat H i = .fresh ∧ i < H.length) → (newL is e).run H = e.run H
 | [], _ => rfl
 | i :: is, h => by
  obtain ⟨h1, h2⟩ := h i (by simp)
  simp only [newL, Eff.run, h1, h2, if_true]
  exact newL_run fun j hj => h j (by simp [hj])
theorem call_ok (h : RelR fr b N ρ t g) {f : Nat} {ps : List PK} {rs : List RK} {F : Flds S (pcs ps) → Option (Flds S (rcs rs))} (hF : FOk pr f ps rs F) {args : List (Nat × PX)} {p : Flds S (pcs ps)} {r : Flds S (rcs rs)} {res : Nat} {q : List (Val S) × TS S}
  (hp : argsA t (keeps (S := S) rs) ps args = some p) (hr : F p = some r) (hi : impT rs r res t = some q) :
  ∃ n o g' ρ', (callE (runN pr n) (b + res) f (args.map fun p => (p.1, p.2.ev g.ts))).run g.hp = some o ∧ GhK ⟨g.ts, o.on g.hp⟩ g' ∧ RelR fr b N ρ' q.2 g' ∧ VS ρ' g'.hp (retT rs q.1) o.d ∧ ((rs.all valR && keeps (S := S) rs) = true → o.ws = [] ∧ o.fz = []) := by
 obtain ⟨ds, ids, p1, p2, p3⟩ := argsA_ok h (j := 0) hp
 obtain ⟨n, d, H', r1, r2, xs, hh, rd, e1, e2, e3, e4⟩ := hF p r hr ds p2
 obtain ⟨g', ρ', k1, k2, k3, k4, k5⟩ := imp_ok (k := res) e4 (GhK.refl g) h hi
 have hl : (impL (b + res) xs).1.length = rs.length := by
  have : ∀ {l : List D} {r : Nat}, (impL r l).1.length = l.length := by
   intro l
   induction l with
   | nil => intro r; rfl
   | cons d l ih => intro r; simp [impL, ih]
  rw [this, e4.len]
 refine ⟨n, ⟨recomp d (impL (b + res) xs).1, (impL (b + res) xs).2, if xs.all scalV then [] else ids⟩, g', ρ', ?_, ?_, k2, ret_ok r2 hl k4, fun hc => ?_⟩
 ·simp only [callE, run_bindE, p1, Option.bind_some, List.map_nil, nodup, apart, List.all_nil, Bool.and_self, if_true, r1, finish, e1, expB, boxKs]
  simp only [e2, List.isEmpty_nil, Bool.true_and, List.nil_append]
  have h1 : (hh.all fun x => !rd.contains x) = true := e3
  have h2 : (hh.all fun x => !([] : List Nat).contains x) = true := by simp
  simp only [h1, h2, Bool.and_self, if_true]
  rw [newL_run k5]
  rfl
 ·show GhK ⟨g.ts, doFz (doWs g.hp _) _⟩ g'
  cases hsc : xs.all scalV with
  | true => exact k1
  | false =>
   rw [if_neg (by simp), doFz_dead (fun j hj => ?_)]
   ·exact k1
   ·have hk : keeps (S := S) rs = false := by
     cases hk : keeps (S := S) rs with
     | false => rfl
     | true => rw [keeps_scal hk e4] at hsc; cases hsc
    rcases p3 j hj with ⟨sz, es, hd⟩ | ⟨e, _⟩
    ·exact ⟨sz, es, by rw [hat_doWs (fun j' hj' e => by subst e; rw [(k5 j hj').1] at hd; cases hd)]; exact hd⟩
    ·rw [hk] at e; cases e
 ·simp only [Bool.and_eq_true] at hc
  exact ⟨val_ws hc.1 e4, by rw [if_pos (keeps_scal hc.2 e4)]⟩
end
end Go.Pi
namespace Go.Pi
set_option linter.unusedVariables false
section
variable {S : Nat → Type} [Sg : Sig S] {ρ ρ' : Rho} {H H' : Heap} {fr : Fr} {b N : Nat} {t : TS S} {s g : St} {α : Type} {pr : Prog}
theorem expB_id {H : Heap} {sz : Nat} {cs : List D} {ry : List Nat} (h : expB H 0 [(0, true)] = some ([(0, .row sz [cs] true)], ry)) (id : Nat) : expB H 0 [(id, true)] = some ([(id, .row sz [cs] true)], ry) := by
 simp only [expB] at h ⊢
 split at h
 ·rename_i sz' es' hh
  simp only [Option.bind_eq_some_iff, Option.some.injEq, Prod.mk.injEq, Option.bind_some] at h
  obtain ⟨x, h1, h2, h3⟩ := h
  simp only [List.cons.injEq, Prod.mk.injEq, Blk.row.injEq, and_true, true_and] at h2
  obtain ⟨rfl, h2⟩ := h2
  simp only [h1, Option.bind_some, h2, h3]
 ·cases h
theorem eachE_up {H : Heap} {n m : Nat} (hm : n ≤ m) : ∀ {ds : List (List D)} {x : List (List D) × List Nat}, (eachE (frz n) ds).run H = some x → (eachE (frz m) ds).run H = some x := by
 have hC : ∀ {ds : List D} {x : List D × List Nat}, (eachC (frz n) ds).run H = some x → (eachC (frz m) ds).run H = some x := by
  intro ds
  induction ds with
  | nil => intro x h; exact h
  | cons d ds ih =>
   intro x h
   simp only [eachC, run_bindE, Option.bind_eq_some_iff] at h ⊢
   obtain ⟨y, h1, z, h2, h3⟩ := h
   exact ⟨y, frz_up h1 hm, z, ih h2, h3⟩
 intro ds
 induction ds with
 | nil => intro x h; exact h
 | cons d ds ih =>
  intro x h
  simp only [eachE, run_bindE, Option.bind_eq_some_iff] at h ⊢
  obtain ⟨y, h1, z, h2, h3⟩ := h
  exact ⟨y, hC h1, z, ih h2, h3⟩
theorem lent_ok (h : RelR fr b N ρ t g) {pn : Option Nat} {f : Nat} {c : Code} {ps : List PK} {rs : List RK} {F : T S c × Flds S (pcs ps) → Option (T S c × Flds S (rcs rs))} (hF : LOk pr f c ps rs F) {x : PX} {ob : Nat} {vs : List (Val S)} {a : T S c} {args : List (Nat × PX)} {p : Flds S (pcs ps)} {r : T S c × Flds S (rcs rs)} {res : Nat} {q : List (Val S) × TS S}
  (hx : evK t x = some (.ptr ob [] 0 0)) (ho : look t.hp ob = some (.box pn vs)) (ha : mk 11 c vs = some a) (hp : argsA t false ps args = some p) (hr : F (a, p) = some r) (hi : impT rs r.2 res (t.setO ob (.box pn [.one 1 c r.1])) = some q) :
  ∃ n o g' ρ', (callE (runN pr n) (b + res) f (((2, x) :: args).map fun p => (p.1, p.2.ev g.ts))).run g.hp = some o ∧ GhK ⟨g.ts, o.on g.hp⟩ g' ∧ RelR fr b N ρ' q.2 g' ∧ VS ρ' g'.hp (retT rs q.1) o.d := by
 obtain ⟨ds, ids, p1, p2, p3⟩ := argsA_ok h (j := 1) hp
 obtain ⟨id, sz, es, c1, c2, c3, c4⟩ := h.ev hx
 obtain ⟨id', cs, k1, k2, k3, k9⟩ := h.hp _ _ ho
 rw [c1] at k1; cases k1
 rw [c2] at k2; cases k2
 rw [Nat.zero_mul, Nat.zero_add] at c4
 have hcs := mk_ok (by omega) ha k3
 have hw : widths vs = W (S := S) c := by rw [← k3.len, ← hcs.len, encs_len]
 rw [hw] at c2
 obtain ⟨z, z1, z2, z3⟩ := cls_each (P := fun _ => False) (Nat.le_refl 11) hcs
 have z3 : ∀ i ∈ z.2, dead g.hp i := fun i hi => (z3 i hi).elim (fun q => q) fun q => q.elim
 have zE : (eachE (frz fuelF) [cs]).run g.hp = some ([z.1], z.2) := by
  have : (eachE (frz 11) [cs]).run g.hp = some ([z.1], z.2) := by simp [eachE, run_bindE, z1, Eff.run]
  exact eachE_up (by decide) this
 have hids : ∀ j ∈ z.2 ++ ids, dead g.hp j := by
  intro j hj
  simp at hj
  rcases hj with hj | hj
  ·exact z3 j hj
  ·rcases p3 j hj with h | ⟨h, _⟩
   ·exact h
   ·cases h
 have hprep : (prep (((2, x) :: args).map fun p => (p.1, p.2.ev g.ts)) 0).run g.hp = some ⟨.ptr 0 0 :: ds, [.row (W (S := S) c) [z.1] true], z.2 ++ ids, [(id, true)]⟩ := by
  simp only [List.map_cons, c4, prep, Eff.run, c2, if_true, run_bindE, zE, Option.bind_some, p1]
 obtain ⟨n, d, H', r1, r2, xs, hd', rd, cs2, ry, e1, e2, e3, e4, e5, e6, e7, e8, e9, e10⟩ := hF (a, p) r hr z.1 ds (nrs_cl z2) p2
 have hidl : id < g.hp.length := hat_ltK (by rw [c2]; intro e; cases e)
 have hs1 : RelR fr b N ρ (t.setO ob (.box pn [.one 1 c r.1])) ⟨g.ts, g.hp.set id (.row (W (S := S) c) [cs2] true)⟩ := h.upd (es := [cs]) (es' := [cs2]) c1 c2 rfl fun hx e1 _ => ⟨id, cs2, c1, by rw [e1]; simp [widths, width], VCs.single (cls_heap (HLe.nil _) e6), k9⟩
 obtain ⟨g', ρ', q1, q2, q3, q4, q5⟩ := imp_ok (k := res) e4 (GhK.refl ⟨g.ts, g.hp.set id (.row (W (S := S) c) [cs2] true)⟩) hs1 hi
 have hne : ∀ j, dead g.hp j → j ≠ id := fun j hj e => by
  obtain ⟨_, _, hj⟩ := hj
  rw [e, c2] at hj; cases hj
 have hl : (impL (b + res) xs).1.length = rs.length := by
  have : ∀ {l : List D} {r : Nat}, (impL r l).1.length = l.length := by
   intro l
   induction l with
   | nil => intro r; rfl
   | cons d l ih => intro r; simp [impL, ih]
  rw [this, e4.len]
 refine ⟨n, ⟨recomp d (impL (b + res) xs).1, (id, .row (W (S := S) c) [cs2] true) :: (impL (b + res) xs).2, z.2 ++ ids⟩, g', ρ', ?_, ?_, q2, ret_ok r2 hl q4⟩
 ·have hap : apart [id] (z.2 ++ ids) = true := by
   simp only [apart, List.all_eq_true, Bool.not_eq_true', List.contains_eq_mem, decide_eq_false_iff_not]
   intro j hj hm
   simp only [List.mem_singleton] at hj
   exact hne j (hids j hm) hj
  have hnd : nodup [id] = true := by simp [nodup]
  unfold callE
  rw [run_bindE, hprep]
  simp only [Option.bind_some, List.map_cons, List.map_nil, hap, hnd, Bool.and_self, if_true, r1, finish, e1, expB_id e5 id, boxKs]
  simp only [e2, e3, e7, e8, e9, e10, Bool.and_self, if_true, List.isEmpty_cons, Bool.false_and, Bool.false_eq_true, if_false]
  rw [newL_run (fun j hj => ?_)]
  ·rfl
  ·obtain ⟨f1, f2⟩ := q5 j hj
   rw [hat_setK hidl] at f1
   split at f1
   ·cases f1
   ·exact ⟨f1, by simpa using f2⟩
 ·show GhK ⟨g.ts, doFz (doWs (g.hp.set id _) _) _⟩ g'
  rw [doFz_dead (fun j hj => ?_)]
  ·exact q1
  ·obtain ⟨sz', es', hj'⟩ := hids j hj
   have hn := hne j (hids j hj)
   have h1 : hat (g.hp.set id (.row (W (S := S) c) [cs2] true)) j = .row sz' es' false := by rw [hat_setK hidl, if_neg hn]; exact hj'
   refine ⟨sz', es', ?_⟩
   rw [hat_doWs (fun j' hj' e => ?_)]
   ·exact h1
   ·subst e
    have := (q5 j hj').1
    rw [h1] at this; cases this
end
end Go.Pi
namespace Go.Pi
set_option linter.unusedVariables false
section
variable {S : Nat → Type} [Sg : Sig S] {ρ ρ' : Rho} {H H' : Heap} {fr : Fr} {b N : Nat} {t : TS S} {s g : St} {α : Type} {pr : Prog}
def enumV {α : Type} : Nat → List α → List (Nat × α)
 | _, [] => []
 | i, v :: vs => (i, v) :: enumV (i + 1) vs
theorem look_enumV {α : Type} : ∀ {vs : List α} {i j : Nat} {v : α}, look (enumV i vs) j = some v → ∃ k, j = i + k ∧ vs[k]? = some v
 | [], _, _, _, h => nomatch h
 | w :: vs, i, j, v, h => by
  simp only [enumV, look] at h
  split at h
  ·rename_i e
   cases h
   exact ⟨0, (Nat.eq_of_beq_eq_true e).symm, rfl⟩
  ·obtain ⟨k, h1, h2⟩ := look_enumV h
   exact ⟨k + 1, by omega, by simpa using h2⟩
def argVs (t : TS S) : List PX → Option (List (Val S))
 | [] => some []
 | x :: xs => match evK t x with
  | some v => (match argVs t xs with
   | some vs => some (v :: vs)
   | none => none)
  | none => none
theorem argVs_ok (h : RelR fr b N ρ t g) : ∀ {xs : List PX} {vs : List (Val S)}, argVs t xs = some vs → All2 (VS ρ g.hp) vs (xs.map (PX.ev g.ts))
 | [], _, e => by cases e; trivial
 | x :: xs, vs, e => by
  simp only [argVs] at e
  split at e
  ·rename_i v hv
   split at e
   ·rename_i us hu
    cases e
    exact ⟨h.ev hv, argVs_ok h hu⟩
   ·cases e
  ·cases e
def tpN (n : Nat) : Bool := !Nat.beq n 1
def HOk (pr : Prog) (f : Nat) (sI sO : ShapeK) (F : Flds S sI.cs → Option (Flds S sO.cs)) : Prop :=
 ∀ p r, F p = some r → ∀ (fr : Fr) (ρ : Rho) (args : List D) (H : Heap), args.length = sI.sl.length → RelR fr 0 args.length ρ (openSh sI p) ⟨args, H⟩ → Runs pr f args H fun d H' =>
  tupD d = tpN sO.sl.length ∧ ∃ g' ρ', GhK ⟨comps d, H'⟩ g' ∧ RelR fr 0 sO.sl.length ρ' (openSh sO r) g'
structure HEnt (S : Nat → Type) [Sg : Sig S] (pr : Prog) where
 f : Nat
 sI : ShapeK
 sO : ShapeK
 F : Flds S sI.cs → Option (Flds S sO.cs)
 ok : HOk pr f sI sO F
structure HC where
 L : List (Nat × Option Nat)
 sh : ShapeK
def isSm {α : Type} : Option α → Bool
 | some _ => true
 | none => false
def inL (L : List (Nat × Option Nat)) (o : Nat) : Bool := isSm (look L o)
def findPin : List (Nat × Option Nat) → Nat → Option Nat
 | [], _ => none
 | (a, some k) :: L, j => (match Nat.beq k j with
  | true => some a
  | false => findPin L j)
 | (_, none) :: L, j => findPin L j
def pinof (L : List (Nat × Option Nat)) (o : Nat) : Option Nat := match look L o with
 | some (some k) => (match findPin L k with
  | some a => (match Nat.beq a o with
   | true => some k
   | false => none)
  | none => none)
 | _ => none
theorem pinof_ok {L : List (Nat × Option Nat)} {o k : Nat} (h : pinof L o = some k) : findPin L k = some o ∧ inL L o = true := by
 unfold pinof at h
 split at h
 ·rename_i k' hk
  split at h
  ·rename_i a ha
   split at h
   ·rename_i e
    cases h
    obtain rfl := Nat.eq_of_beq_eq_true e
    exact ⟨ha, by simp [inL, hk, isSm]⟩
   ·cases h
  ·cases h
 ·cases h
def repinO (L : List (Nat × Option Nat)) (o : Nat) : Obj S → Obj S
 | .box _ vs => .box (pinof L o) vs
 | ob => ob
def repinH (L : List (Nat × Option Nat)) : List (Nat × Obj S) → List (Nat × Obj S)
 | [] => []
 | (o, ob) :: E => (o, repinO L o ob) :: repinH L E
omit Sg in
theorem look_repinH {L : List (Nat × Option Nat)} : ∀ {E : List (Nat × Obj S)} {o : Nat} {ob : Obj S}, look (repinH L E) o = some ob → ∃ w, look E o = some w ∧ ob = repinO L o w
 | [], _, _, h => nomatch h
 | (k, w) :: E, o, ob, h => by
  simp only [repinH, look] at h ⊢
  split at h
  ·rename_i e
   cases h
   obtain rfl := Nat.eq_of_beq_eq_true e
   exact ⟨w, rfl, rfl⟩
  ·exact look_repinH h
def tArg (L : List (Nat × Option Nat)) (vs : List (Val S)) (t : TS S) : TS S :=
 TS.clear ⟨enumV 0 vs, repinH L t.hp, t.nx, [], t.gh⟩ (fun o _ => !inL L o)
def rhoIn (L : List (Nat × Option Nat)) (ρ : Rho) : Rho := cutR ρ (fun o _ => !inL L o)
theorem rhoIn_some {L : List (Nat × Option Nat)} {o : Nat} {p : List Nat} {x : Option Nat} (h : rhoIn L ρ o p = some x) : inL L o = true ∧ ρ o p = some x := by
 obtain ⟨h1, h2⟩ := cutR_some h
 exact ⟨by simpa using h1, h2⟩
def pinF (L : List (Nat × Option Nat)) (ρ : Rho) (k : Nat) : Nat := match findPin L k with
 | some a => (match ρ a [] with
  | some (some id) => id
  | _ => 0)
 | none => 0
open Classical in
noncomputable def frA (L : List (Nat × Option Nat)) (ρ : Rho) (H : Heap) : Fr :=
 ⟨fun id => if ∃ o p, rhoIn L ρ o p = some (some id) then none else if id < H.length then some (hat H id) else none, pinF L ρ⟩
open Classical in
theorem frA_in {L : List (Nat × Option Nat)} {o : Nat} {p : List Nat} {id : Nat} (h : rhoIn L ρ o p = some (some id)) : (frA L ρ H) id = none := by
 show (if _ then _ else _) = _
 rw [if_pos ⟨o, p, h⟩]
open Classical in
theorem frA_out {L : List (Nat × Option Nat)} {id : Nat} (h : ∀ o p, rhoIn L ρ o p ≠ some (some id)) (hl : id < H.length) : (frA L ρ H) id = some (hat H id) := by
 show (if _ then _ else _) = _
 rw [if_neg (fun ⟨o, p, e⟩ => h o p e), if_pos hl]
open Classical in
theorem frA_some {L : List (Nat × Option Nat)} {id : Nat} {k : Blk} (h : (frA L ρ H) id = some k) : hat H id = k ∧ id < H.length := by
 have h : (if _ then _ else _) = some k := h
 split at h
 ·cases h
 ·split at h
  ·cases h
   exact ⟨rfl, by assumption⟩
  ·cases h
open Classical in
theorem frA_none {L : List (Nat × Option Nat)} {id : Nat} (h : (frA L ρ H) id = none) : (∃ o p, rhoIn L ρ o p = some (some id)) ∨ H.length ≤ id := by
 have h : (if _ then _ else _) = none := h
 split at h
 ·exact .inl (by assumption)
 ·split at h
  ·cases h
  ·right; omega
theorem RelR.args (h : RelR fr b N ρ t g) (L : List (Nat × Option Nat)) {vs : List (Val S)} {ds : List D} (hv : All2 (VS ρ g.hp) vs ds) :
  RelR (frA L ρ g.hp) 0 ds.length (rhoIn L ρ) (Pi.tArg L vs t) ⟨ds, g.hp⟩ := by
 refine ⟨rfl, fun i v hl => ?_, fun o ob ho => ?_, fun _ _ _ _ _ h1 h2 => h.inj _ _ _ _ _ (rhoIn_some h1).2 (rhoIn_some h2).2, fun o p id h1 => ⟨frA_in h1, (h.liv _ _ _ (rhoIn_some h1).2).2⟩, fun o p ho => ?_, fun id k hk => frA_some hk, List.nodup_nil, fun _ hr => nomatch hr⟩
 ·obtain ⟨w, h1, rfl⟩ := look_clearS hl
  obtain ⟨k, e, hk⟩ := look_enumV h1
  rw [Nat.zero_add] at e
  subst e
  obtain ⟨d, h2, h3⟩ := hv.get hk
  show VS (rhoIn L ρ) g.hp _ (ds.getD i .undef)
  rw [List.getD_eq_getElem?_getD, h2]
  exact h3.clear
 ·obtain ⟨h1, w, h2, rfl⟩ := look_clearH ho
  obtain ⟨w', h2', rfl⟩ := look_repinH h2
  have h3 := h.hp _ _ h2'
  cases w' with
  | row n e l => exact RowR.ext (HLe.refl _) (fun p x hx => by rw [rhoIn, cutR_ne (P := fun o _ => !inL L o) h1]; exact hx) (fun p id _ => rfl) h3
  | box pn us =>
   obtain ⟨id, es, k1, k2, k3, k9⟩ := h3
   refine ⟨id, es, by rw [rhoIn, cutR_ne (P := fun o _ => !inL L o) h1]; exact k1, by rw [k3.clear.2]; exact k2, k3.clear.1, ?_⟩
   cases hp : pinof L o with
   | none => exact trivial
   | some k =>
    show id = pinF L ρ k
    simp only [pinF, (pinof_ok hp).1, k1]
 ·have := h.nxt o p ho
  simp only [rhoIn, cutR]
  split
  ·rfl
  ·exact this
def keyH : List (Nat × OSh) → Nat → Bool
 | [], _ => false
 | (a, _) :: E, o => match Nat.beq a o with
  | true => true
  | false => keyH E o
def staysK (L : List (Nat × Option Nat)) (t t' : TS S) (o : Nat) : Bool := match pinof L o, look t.hp o, look t'.hp o with
 | some k, some (.box _ vs), some (.box (some k') vs') => Nat.beq k k' && Nat.beq (widths vs') (widths vs)
 | _, _, _ => false
def nilP : List Nat → Bool
 | [] => true
 | _ :: _ => false
def goneP (L : List (Nat × Option Nat)) (ks : List (Nat × OSh)) (t t' : TS S) : Nat → List Nat → Bool := fun o p => (inL L o || keyH ks o) && !(staysK L t t' o && nilP p)
def goneQ (L : List (Nat × Option Nat)) (ks : List (Nat × OSh)) : Nat → Bool := fun o => inL L o || keyH ks o
def backO (L : List (Nat × Option Nat)) (t t' : TS S) (o : Nat) : Obj S → Obj S
 | .box pn vs => .box (match staysK L t t' o, look t.hp o with
  | true, some (.box pn0 _) => pn0
  | _, _ => none) vs
 | ob => ob
def backH (L : List (Nat × Option Nat)) (t t' : TS S) : List (Nat × Obj S) → List (Nat × Obj S) → List (Nat × Obj S)
 | [], K => K
 | (o, ob) :: E, K => (o, backO L t t' o ob) :: backH L t t' E K
theorem look_backH {L : List (Nat × Option Nat)} {t t' : TS S} : ∀ {E K : List (Nat × Obj S)} {o : Nat} {ob : Obj S}, look (backH L t t' E K) o = some ob → (∃ w, look E o = some w ∧ ob = backO L t t' o w) ∨ look K o = some ob
 | [], _, _, _, h => .inr h
 | (k, w) :: E, K, o, ob, h => by
  simp only [backH, look] at h ⊢
  split at h
  ·rename_i e
   cases h
   obtain rfl := Nat.eq_of_beq_eq_true e
   exact .inl ⟨w, rfl, rfl⟩
  ·exact look_backH h
def mergeT (L : List (Nat × Option Nat)) (ks : List (Nat × OSh)) (t t' : TS S) : TS S :=
 { sl := clearS (goneP L ks t t') t.sl, hp := backH L t t' t'.hp (clearH2 (goneP L ks t t') (goneQ L ks) t.hp), nx := t'.nx, av := t.av, gh := t.gh || t'.gh }
def rhoM (L : List (Nat × Option Nat)) (ks : List (Nat × OSh)) (ρ ρ3 : Rho) : Rho := fun o p => match keyH ks o with
 | true => ρ3 o p
 | false => (match inL L o with
  | true => none
  | false => ρ o p)
theorem RelR.merge (h : RelR fr b N ρ t g) {L : List (Nat × Option Nat)} {ks : List (Nat × OSh)} {t' : TS S} {ρ3 : Rho} {g' : St} {m : Nat} (k : RelR (frA L ρ g.hp) 0 m ρ3 t' g')
  (hk : ∀ o ob, look t'.hp o = some ob → keyH ks o = true) (h3 : ∀ o p x, ρ3 o p = some x → keyH ks o = true) (hx : t.nx ≤ t'.nx) :
  RelR fr b N (rhoM L ks ρ ρ3) (mergeT L ks t t') ⟨g.ts, g'.hp⟩ ∧ ∀ (v : Val S) (d : D), VS ρ3 g'.hp v d → VS (rhoM L ks ρ ρ3) g'.hp v d := by
 have hc := h.clear2 (P := goneP L ks t t') (Q := goneQ L ks) (fun o p q => by
  simp only [goneQ] at q
  simp only [goneP, q, Bool.false_and])
 have out : ∀ {o p id}, ρ o p = some (some id) → inL L o = false → (∀ o' p', rhoIn L ρ o' p' ≠ some (some id)) := fun {o p id} e1 e2 o' p' e3 => by
  obtain ⟨q1, q2⟩ := rhoIn_some e3
  obtain ⟨rfl, _⟩ := h.inj _ _ _ _ _ e1 q2
  rw [e2] at q1
  cases q1
 have same : ∀ {id}, (∀ o' p', rhoIn L ρ o' p' ≠ some (some id)) → id < g.hp.length → hat g'.hp id = hat g.hp id ∧ id < g'.hp.length := fun {id} e1 e2 => k.frm _ _ (frA_out e1 e2)
 have key : ∀ {o p x}, ρ3 o p = some x → rhoM L ks ρ ρ3 o p = some x := fun {o p x} e => by
  simp only [rhoM, h3 _ _ _ e]
  exact e
 have old : ∀ {o p}, goneQ L ks o = false → rhoM L ks ρ ρ3 o p = ρ o p := fun {o p} e => by
  simp only [goneQ, Bool.or_eq_false_iff] at e
  simp only [rhoM, e.1, e.2]
 have cs : ∀ {o p id}, rhoM L ks ρ ρ3 o p = some (some id) → (keyH ks o = true ∧ ρ3 o p = some (some id)) ∨ (goneQ L ks o = false ∧ ρ o p = some (some id) ∧ inL L o = false) := fun {o p id} e => by
  simp only [rhoM] at e
  split at e
  ·exact .inl ⟨by assumption, e⟩
  ·split at e
   ·cases e
   ·rename_i e1 _ e2
    exact .inr ⟨by simp [goneQ, e1, e2], e, e2⟩
 have lt : ∀ {o p id}, ρ o p = some (some id) → id < g.hp.length := fun e => by
  obtain ⟨_, _, _, q⟩ := h.liv _ _ _ e
  exact hat_ltK (by rw [q]; intro z; cases z)
 have hle : HLe g.hp g'.hp := fun id sz es e => by
  have l1 : id < g.hp.length := hat_ltK (by rw [e]; intro z; cases z)
  rw [(same (fun o' p' q => by
   obtain ⟨_, _, _, q2⟩ := h.liv _ _ _ (rhoIn_some q).2
   rw [e] at q2
   cases q2) l1).1]
  exact e
 have stay : ∀ {o}, staysK L t t' o = true → ∃ id sz es es', ρ o [] = some (some id) ∧ ρ3 o [] = some (some id) ∧ hat g.hp id = .row sz [es] true ∧ hat g'.hp id = .row sz [es'] true ∧ keyH ks o = true := fun {o} e => by
  unfold staysK at e
  split at e
  ·rename_i kk _ vs k' vs' e1 e2 e3
   simp only [Bool.and_eq_true] at e
   obtain rfl := Nat.eq_of_beq_eq_true e.1
   have ew := Nat.eq_of_beq_eq_true e.2
   obtain ⟨id, ds, a1, a2, a3, a4⟩ := h.hp _ _ e2
   obtain ⟨id', ds', b1, b2, b3, b4⟩ := k.hp _ _ e3
   have b4 : id' = pinF L ρ kk := b4
   simp only [pinF, (pinof_ok e1).1, a1] at b4
   subst b4
   exact ⟨id', _, ds, ds', a1, b1, a2, by rw [b2, ew], hk _ _ e3⟩
  ·cases e
 have gone : ∀ {o p}, goneP L ks t t' o p = false → goneQ L ks o = false ∨ (staysK L t t' o = true ∧ p = []) := fun {o p} e => by
  cases q : goneQ L ks o with
  | false => exact .inl rfl
  | true =>
   right
   have q : (inL L o || keyH ks o) = true := q
   simp only [goneP, q, Bool.true_and, Bool.not_eq_false', Bool.and_eq_true] at e
   refine ⟨e.1, ?_⟩
   cases p with
   | nil => rfl
   | cons _ _ => exact nomatch e.2
 have x : Ext (cutR ρ (goneP L ks t t')) g.hp (rhoM L ks ρ ρ3) g'.hp := by
  refine ⟨hle, fun o p y hy => ?_, fun o p id sz es hy hr => ?_⟩
  ·obtain ⟨e1, e2⟩ := cutR_some hy
   rcases gone e1 with q | ⟨q, rfl⟩
   ·rw [old q]; exact e2
   ·obtain ⟨id, _, _, _, a1, a2, _, _, _⟩ := stay q
    rw [a1] at e2
    cases e2
    exact key a2
  ·obtain ⟨e1, e2⟩ := cutR_some hy
   rcases gone e1 with q | ⟨q, rfl⟩
   ·have q2 : inL L o = false := by
     simp only [goneQ, Bool.or_eq_false_iff] at q
     exact q.1
    exact ⟨es, by rw [(same (out e2 q2) (lt e2)).1]; exact hr, rfl⟩
   ·obtain ⟨id', sz', e, e', a1, a2, a3, a4, _⟩ := stay q
    rw [a1] at e2
    cases e2
    rw [a3] at hr
    cases hr
    exact ⟨[e'], a4, rfl⟩
 have x3 : Ext ρ3 g'.hp (rhoM L ks ρ ρ3) g'.hp := ⟨HLe.refl _, fun _ _ _ e => key e, fun _ _ _ _ es _ e => ⟨es, e, rfl⟩⟩
 refine ⟨⟨h.len, fun i v hv => (hc.sl i v hv).ext x, fun o ob ho => ?_, fun o p o' p' id e1 e2 => ?_, fun o p id e => ?_, fun o p ho => ?_, fun id q hq => ?_, h.avl.1, fun r hr => ?_⟩, fun v d hv => hv.ext x3⟩
 ·rcases look_backH ho with ⟨w, e1, rfl⟩ | e1
  ·have e2 := k.hp _ _ e1
   cases w with
   | row n e l => exact RowR.ext (HLe.refl _) (fun p y hy => key hy) (fun _ _ _ => rfl) e2
   | box pn vs =>
    obtain ⟨id, ds, a1, a2, a3, a4⟩ := e2
    refine ⟨id, ds, key a1, a2, a3.ext x3, ?_⟩
    split
    ·rename_i pn0 _ q1 q2
     obtain ⟨id', _, _, _, b1, b2, _, _, _⟩ := stay q1
     rw [a1] at b2
     cases b2
     obtain ⟨id2, _, c1, _, _, c4⟩ := h.hp _ _ q2
     rw [b1] at c1
     cases c1
     exact c4
    ·exact trivial
  ·obtain ⟨q1, w, q2, rfl⟩ := look_clearH2 e1
   have e2 := hc.hp _ _ e1
   refine ObjR.ext x (fun p id hp => ?_) e2
   have hp2 := (cutR_some hp).2
   have q3 : inL L o = false := by
    simp only [goneQ, Bool.or_eq_false_iff] at q1
    exact q1.1
   exact (same (out hp2 q3) (lt hp2)).1
 ·rcases cs e1 with ⟨a1, a2⟩ | ⟨a1, a2, a3⟩ <;> rcases cs e2 with ⟨b1, b2⟩ | ⟨b1, b2, b3⟩
  ·exact k.inj _ _ _ _ _ a2 b2
  ·have := (k.liv _ _ _ a2).1
   rw [frA_out (out b2 b3) (lt b2)] at this
   cases this
  ·have := (k.liv _ _ _ b2).1
   rw [frA_out (out a2 a3) (lt a2)] at this
   cases this
  ·exact h.inj _ _ _ _ _ a2 b2
 ·rcases cs e with ⟨a1, a2⟩ | ⟨a1, a2, a3⟩
  ·obtain ⟨q1, q2⟩ := k.liv _ _ _ a2
   refine ⟨?_, q2⟩
   rcases frA_none q1 with ⟨o', p', z⟩ | z
   ·exact (h.liv _ _ _ (rhoIn_some z).2).1
   ·cases z2 : fr id with
    | none => rfl
    | some y => exact absurd (h.frm _ _ z2).2 (by omega)
  ·obtain ⟨q1, sz, es, q2⟩ := h.liv _ _ _ a2
   exact ⟨q1, sz, es, by rw [(same (out a2 a3) (lt a2)).1]; exact q2⟩
 ·have ho : t'.nx ≤ o := ho
  simp only [rhoM]
  split
  ·exact k.nxt _ _ ho
  ·split
   ·rfl
   ·exact h.nxt _ _ (by omega)
 ·obtain ⟨q1, q2⟩ := h.frm _ _ hq
  have := same (id := id) (fun o' p' z => by
   rw [(h.liv _ _ _ (rhoIn_some z).2).1] at hq
   cases hq) q2
  exact ⟨by rw [this.1]; exact q1, this.2⟩
 ·obtain ⟨q1, q2, q3⟩ := h.avl.2 r hr
  have := same (id := b + r) (fun o' p' z => by
   obtain ⟨_, _, _, z2⟩ := h.liv _ _ _ (rhoIn_some z).2
   rw [q1] at z2
   cases z2) q2
  exact ⟨by rw [this.1]; exact q1, this.2, q3⟩
def isTup : Val S → Bool
 | .tup _ => true
 | _ => false
def colV (t : TS S) : Nat → Nat → Option (List (Val S))
 | _, 0 => some []
 | i, n + 1 => match look t.sl i with
  | some v => (match isTup v, colV t (i + 1) n with
   | false, some vs => some (v :: vs)
   | _, _ => none)
  | none => none
theorem colV_ok {m : Nat} (h : RelR fr b m ρ t g) : ∀ {n i : Nat} {vs : List (Val S)}, colV t i n = some vs → i + n = m → All2 (VSx ρ g.hp) vs (g.ts.drop i)
 | 0, i, vs, e, hm => by
  cases e
  rw [List.drop_of_length_le (by rw [h.len]; omega)]
  trivial
 | n + 1, i, vs, e, hm => by
  simp only [colV] at e
  split at e
  ·rename_i v hv
   split at e
   ·rename_i us ht hu
    cases e
    have hi : i < g.ts.length := by rw [h.len]; omega
    rw [List.drop_eq_getElem_cons hi]
    refine ⟨?_, colV_ok h hu (by omega)⟩
    have := h.sl _ _ hv
    rw [List.getD_eq_getElem?_getD, List.getElem?_eq_getElem hi] at this
    exact this.toVSx (fun _ e => by subst e; cases ht)
   ·cases e
  ·cases e
def retH (n : Nat) (vs : List (Val S)) : Val S := match tpN n with
 | true => .tup vs
 | false => vs.headD .undef
def callHT (e : HEnt S pr) (C : HC) (N : Nat) (dst : Option Nat) (args : List PX) (t : TS S) (K : TS S → Option α) : Option α := match argVs t args with
 | some vs => (match closeSh e.sI (tArg C.L vs t) with
  | some p => (e.F p).bind fun r => (match closeSh C.sh (openSh e.sO r) with
   | some q => (match colV ((openSh C.sh q).clear fun o _ => !keyH C.sh.hp o) 0 C.sh.sl.length with
    | some us => (match Nat.beq args.length e.sI.sl.length && Nat.beq C.sh.sl.length e.sO.sl.length && Nat.ble t.nx C.sh.nx && dstK N dst with
     | true => K ((mergeT C.L C.sh.hp t ((openSh C.sh q).clear fun o _ => !keyH C.sh.hp o)).putD dst (retH C.sh.sl.length us))
     | false => none)
    | none => none)
   | none => none)
  | none => none)
 | none => none
theorem callHT_ok (h : RelR fr b N ρ t g) {e : HEnt S pr} {C : HC} {dst : Option Nat} {args : List PX} {res : Nat} {K : TS S → Option α} {r : α} (hr : callHT e C N dst args t K = some r) :
  ∃ n g1, stepO (runN pr n) b ⟨dst, .callH e.f args, none, [], res⟩ g = some g1 ∧ ∃ t' g2 ρ2, K t' = some r ∧ GhK g1 g2 ∧ RelR fr b N ρ2 t' g2 := by
 unfold callHT at hr
 split at hr
 ·rename_i vs hvs
  split at hr
  ·rename_i p hp
   simp only [Option.bind_eq_some_iff] at hr
   obtain ⟨y, hy, hr⟩ := hr
   split at hr
   ·rename_i q hq
    split at hr
    ·rename_i us hus
     split at hr
     ·rename_i hc
      simp only [Bool.and_eq_true] at hc
      obtain ⟨⟨⟨c0, c1⟩, c2⟩, c3⟩ := hc
      have c1 := Nat.eq_of_beq_eq_true c1
      have c2 := Nat.le_of_ble_eq_true c2
      have ha := h.args C.L (argVs_ok h hvs)
      obtain ⟨ρ1, h1⟩ := ha.closeSh hp
      obtain ⟨n, d, H', r1, r2, g', ρ', r3, r4⟩ := e.ok p y hy _ _ _ _ (by rw [List.length_map]; exact Nat.eq_of_beq_eq_true c0) h1
      obtain ⟨ρ2, h2⟩ := r4.closeSh hq
      have h3 := h2.clear (P := fun o _ => !keyH C.sh.hp o) (fun _ _ q => q)
      have hk : ∀ o ob, look ((openSh C.sh q).clear fun o _ => !keyH C.sh.hp o).hp o = some ob → keyH C.sh.hp o = true := fun o ob ho => by
       obtain ⟨q1, _⟩ := look_clearH ho
       simpa using q1
      have hρ : ∀ o p x, cutR ρ2 (fun o _ => !keyH C.sh.hp o) o p = some x → keyH C.sh.hp o = true := fun o p x ho => by
       have := (cutR_some ho).1
       simpa using this
      obtain ⟨m1, m2⟩ := h.merge h3 hk hρ c2
      have hv := colV_ok h3 hus (by rw [Nat.zero_add]; exact c1)
      rw [List.drop_zero] at hv
      have hts : comps d = g'.ts := r3.ts
      have hl : g'.ts.length = C.sh.sl.length := by rw [c1]; exact r4.len
      have hres : VS (cutR ρ2 fun o _ => !keyH C.sh.hp o) g'.hp (retH C.sh.sl.length us) d := by
       unfold retH
       cases htp : tpN C.sh.sl.length with
       | true =>
        rw [← c1, htp] at r2
        cases d <;> first | exact ⟨_, rfl, by rw [← hts] at hv; exact hv⟩ | cases r2
       | false =>
        rw [← c1, htp] at r2
        have hn : C.sh.sl.length = 1 := by
         simp only [tpN, Bool.not_eq_false'] at htp
         exact Nat.eq_of_beq_eq_true htp
        have hcd : comps d = [d] := by cases d <;> first | rfl | cases r2
        rw [← hts, hcd] at hv
        match us, hv with
        | [u], hv => exact hv.1.toVS
      refine ⟨n, ⟨putT g.ts dst d, H'⟩, ?_, _, ⟨putT g.ts dst d, g'.hp⟩, _, hr, ⟨rfl, r3.hp⟩, m1.putD c3 (m2 _ _ hres)⟩
      simp only [stepO, guardOk, wantedP, if_true, r1, Option.map_some]
     ·cases hr
    ·cases hr
   ·cases hr
  ·cases hr
 ·cases hr
end
end Go.Pi
namespace Go.Pi
set_option linter.unusedVariables false
structure Ent (S : Nat → Type) [Sg : Sig S] (pr : Prog) where
 f : Nat
 ps : List PK
 rs : List RK
 F : Flds S (pcs ps) → Option (Flds S (rcs rs))
 ok : FOk pr f ps rs F
structure LEnt (S : Nat → Type) [Sg : Sig S] (pr : Prog) where
 f : Nat
 c : Code
 ps : List PK
 rs : List RK
 F : T S c × Flds S (pcs ps) → Option (T S c × Flds S (rcs rs))
 ok : LOk pr f c ps rs F
inductive Entry (S : Nat → Type) [Sg : Sig S] (pr : Prog) where
 | plain (e : Ent S pr)
 | lent (e : LEnt S pr)
 | heap (e : HEnt S pr)
section
variable {S : Nat → Type} [Sg : Sig S] {ρ ρ' : Rho} {H H' : Heap} {fr : Fr} {b N : Nat} {t : TS S} {s g : St} {α : Type} {pr : Prog}
def Entry.num : Entry S pr → Nat
 | .plain e => e.f
 | .lent e => e.f
 | .heap e => e.f
def findE : List (Entry S pr) → Nat → Option (Entry S pr)
 | [], _ => none
 | e :: es, f => match Nat.beq e.num f with
  | true => some e
  | false => findE es f
theorem findE_ok : ∀ {Γ : List (Entry S pr)} {f : Nat} {e : Entry S pr}, findE Γ f = some e → e.num = f
 | [], _, _, h => nomatch h
 | e :: es, f, e', h => by
  simp only [findE] at h
  split at h
  ·rename_i q
   cases h
   exact Nat.eq_of_beq_eq_true q
  ·exact findE_ok h
def op1 (dst : Option Nat) (res : Nat) (cd : Code) (op : POp) (t : TS S) (K : TS S → Option α) : Option α := match pureK t op with
 | some v => K (t.putD dst v)
 | none => match op with
  | .pick c x y => opPick dst c x y t K
  | .bin o x y => opBin dst o x y t K
  | .alloc z => opAlloc dst res z t K
  | .box n x => opBox dst res n x t K
  | .buildSlice sz n z ps => (match isOwn cd with
   | true => opBuildO dst res sz n z ps t K
   | false => opBuildS dst res cd sz n z ps t K)
  | .makeSlice sz by' z l c => opMake dst res cd sz by' z l c t K
  | .load ag n x => (match evK t x with
   | some (.pa _ _ _ _) => opLoadA dst ag n x t K
   | _ => opLoad dst ag n x t K)
  | .store n a x => (match dst with
   | none => (match evK t a, isOwn cd with
    | some (.pa _ _ _ _), _ => opStoreA n a x t K
    | _, true => opStoreO n a x t K
    | _, false => opStore n a x t K)
   | some _ => none)
  | .indexAddr sz x i => opIndex dst sz x i t K
  | .indexAddrA sz len x i => opIdxA dst sz len x i t K
  | .index ag sz len x i => opIdxV dst ag sz len x i t K
  | .indexS x i => opIndexS dst x i t K
  | .len x => opLen dst x t K
  | .slice sz x lo hi => opSlice dst sz x lo hi t K
  | .sliceS x lo hi => opSliceS dst x lo hi t K
  | .conv c x => opConv dst c x t K
  | .append sz by' x y => (match isOwn cd with
   | true => opAppendO dst res sz by' x y t K
   | false => opAppend dst res cd sz by' x y t K)
  | .mark x => opMark dst x t K
  | .bits x => opBits dst x t K
  | _ => none
theorem op1_ok (h : RelR fr b N ρ t g) {dst : Option Nat} (hd : dstK N dst = true) {res : Nat} {cd : Code} {op : POp} {K : TS S → Option α} {r : α} (hr : op1 dst res cd op t K = some r) : Got fr b N g op res dst (fun t' => K t' = some r) := by
 unfold op1 at hr
 split at hr
 ·rename_i v hv
  intro call
  obtain ⟨d, k1, k2⟩ := pureK_ok h hv call (b + res)
  exact ⟨⟨d, [], []⟩, ρ, _, k1, h.putD hd k2, hr⟩
 ·split at hr
  ·exact (opPick_ok h hd hr).got
  ·exact (opBin_ok h hd hr).got
  ·exact (opAlloc_ok h hd hr).got
  ·exact (opBox_ok h hd hr).got
  ·split at hr
   ·exact opBuildO_ok h hd hr
   ·exact (opBuildS_ok h hd hr).got
  ·exact (opMake_ok h hd hr).got
  ·split at hr
   ·exact (opLoadA_ok h hd hr).got
   ·exact (opLoad_ok h hd hr).got
  ·split at hr
   ·split at hr
    ·exact (opStoreA_ok h hr).got
    ·exact opStoreO_ok h hr
    ·exact (opStore_ok h hr).got
   ·cases hr
  ·exact (opIndex_ok h hd hr).got
  ·exact (opIdxA_ok h hd hr).got
  ·exact (opIdxV_ok h hd hr).got
  ·exact (opIndexS_ok h hd hr).got
  ·exact (opLen_ok h hd hr).got
  ·exact (opSlice_ok h hd hr).got
  ·exact (opSliceS_ok h hd hr).got
  ·exact (opConv_ok h hd hr).got
  ·split at hr
   ·exact opAppendO_ok h hd hr
   ·exact opAppend_ok h hd hr
  ·exact opMark_ok h hd hr
  ·exact (opBits_ok h hd hr).got
  ·cases hr
def callP (e : Ent S pr) (dst : Option Nat) (res : Nat) (args : List (Nat × PX)) (t : TS S) (K : TS S → Option α) : Option α := match argsA t (keeps (S := S) e.rs) e.ps args with
 | some p => (e.F p).bind fun r => match impT e.rs r res t with
  | some q => K (q.2.putD dst (retT e.rs q.1))
  | none => none
 | none => none
def callLK (e : LEnt S pr) (dst : Option Nat) (res : Nat) (args : List (Nat × PX)) (t : TS S) (K : TS S → Option α) : Option α := match args with
 | [] => none
 | (m, x) :: as => (match Nat.beq m 2, evK t x, argsA t false e.ps as with
  | true, some (.ptr o p i j), some q => (match p, Nat.beq i 0 && Nat.beq j 0, look t.hp o with
   | [], true, some (.box pn vs) => (match mk 11 e.c vs with
    | some a => (e.F (a, q)).bind fun r => (match impT e.rs r.2 res (t.setO o (.box pn [.one 1 e.c r.1])) with
     | some w => K (w.2.putD dst (retT e.rs w.1))
     | none => none)
    | none => none)
   | _, _, _ => none)
  | _, _, _ => none)
def callT (Γ : List (Entry S pr)) (f : Nat) (dst : Option Nat) (res : Nat) (args : List (Nat × PX)) (t : TS S) (K : TS S → Option α) : Option α := match findE Γ f with
 | some (.plain e) => callP e dst res args t K
 | some (.lent e) => callLK e dst res args t K
 | _ => none
def callHG (Γ : List (Entry S pr)) (N : Nat) (dst : Option Nat) (f : Nat) (args : List PX) (C : HC) (t : TS S) (K : TS S → Option α) : Option α := match findE Γ f with
 | some (.heap e) => callHT e C N dst args t K
 | _ => none
def callQT (Γ : List (Entry S pr)) (f : Nat) (dst : Option Nat) (res : Nat) (args : List (Nat × PX)) (t : TS S) (K : TS S → Option α) : Option α := match findE Γ f with
 | some (.plain e) => (match e.rs.all valR && keeps (S := S) e.rs with
  | true => callP e dst res args t K
  | false => none)
 | _ => none
def stepT (Γ : List (Entry S pr)) (N : Nat) (dst : Option Nat) (res : Nat) (cd : Code) (op : POp) (t : TS S) (K : TS S → Option α) : Option α := match dstK N dst with
 | false => none
 | true => match op with
  | .call f args => callT Γ f dst res args t K
  | .callQ f args => callQT Γ f dst res args t K
  | .callV fs x args => (match evK t x with
   | some (.fn f) => (match fs.contains f with
    | true => callQT Γ f dst res args t K
    | false => none)
   | _ => none)
  | op => op1 dst res cd op t K
theorem Rel.of (h : RelR fr b N ρ t g) : Rel fr b N t g := ⟨g, ρ, GhK.refl g, h⟩
theorem Rel.gh (h : GhK s g) (k : Rel fr b N t g) : Rel fr b N t s := by
 obtain ⟨g', ρ, h1, h2⟩ := k
 exact ⟨g', ρ, h.trans h1, h2⟩
theorem stepO_op {call : CallF} {dst : Option Nat} {op : POp} {gu : Option (Nat × Bool)} {aft : List Nat} {res : Nat} {out : Out} (hg : guardOk g.ts gu = true) (hw : wantedP g.ts gu = true) (h : (opE call (PX.ev g.ts) (b + res) op).run g.hp = some out) :
  stepO call b ⟨dst, op, gu, aft, res⟩ g = some ⟨putT g.ts dst out.d, out.on g.hp⟩ := by
 unfold stepO
 simp only [hg, hw, if_true]
 split
 ·simp [opE, Eff.run] at h
 ·simp only [h, Option.map_some]
theorem put_gh {dst : Option Nat} {o : Out} {g' : St} (h : GhK ⟨g.ts, o.on g.hp⟩ g') : GhK ⟨putT g.ts dst o.d, o.on g.hp⟩ ⟨putT g'.ts dst o.d, g'.hp⟩ := ⟨by rw [show g.ts = g'.ts from h.ts], h.hp⟩
theorem callP_ok (h : RelR fr b N ρ t g) {e : Ent S pr} {dst : Option Nat} (hd : dstK N dst = true) {res : Nat} {args : List (Nat × PX)} {K : TS S → Option α} {r : α} (hr : callP e dst res args t K = some r) :
  ∃ n o, (callE (runN pr n) (b + res) e.f (args.map fun p => (p.1, p.2.ev g.ts))).run g.hp = some o ∧ (∃ t', K t' = some r ∧ Rel fr b N t' ⟨putT g.ts dst o.d, o.on g.hp⟩) ∧ ((e.rs.all valR && keeps (S := S) e.rs) = true → o.ws = [] ∧ o.fz = []) := by
 unfold callP at hr
 split at hr
 ·rename_i p hp
  simp only [Option.bind_eq_some_iff] at hr
  obtain ⟨v, hv, hr⟩ := hr
  split at hr
  ·rename_i q hq
   obtain ⟨n, o, g', ρ', k1, k2, k3, k4, k5⟩ := call_ok h e.ok hp hv hq
   exact ⟨n, o, k1, ⟨_, hr, _, ρ', put_gh k2, k3.putD hd k4⟩, k5⟩
  ·cases hr
 ·cases hr
theorem callT_ok (h : RelR fr b N ρ t g) {Γ : List (Entry S pr)} {f : Nat} {dst : Option Nat} (hd : dstK N dst = true) {res : Nat} {args : List (Nat × PX)} {K : TS S → Option α} {r : α} (hr : callT Γ f dst res args t K = some r) :
  ∃ n o, (callE (runN pr n) (b + res) f (args.map fun p => (p.1, p.2.ev g.ts))).run g.hp = some o ∧ ∃ t', K t' = some r ∧ Rel fr b N t' ⟨putT g.ts dst o.d, o.on g.hp⟩ := by
 unfold callT at hr
 split at hr
 ·rename_i e he
  obtain ⟨n, o, k1, k2, _⟩ := callP_ok h hd hr
  rw [show e.f = f from findE_ok he] at k1
  exact ⟨n, o, k1, k2⟩
 ·rename_i e he
  unfold callLK at hr
  split at hr
  ·cases hr
  ·rename_i m x as
   split at hr
   ·rename_i o p i j q hm hx hq
    split at hr
    ·rename_i vs hij ho
     simp only [Bool.and_eq_true] at hij
     obtain rfl := Nat.eq_of_beq_eq_true hij.1
     obtain rfl := Nat.eq_of_beq_eq_true hij.2
     obtain rfl := Nat.eq_of_beq_eq_true hm
     split at hr
     ·rename_i a ha
      simp only [Option.bind_eq_some_iff] at hr
      obtain ⟨v, hv, hr⟩ := hr
      split at hr
      ·rename_i w hw
       obtain ⟨n, out, g', ρ', k1, k2, k3, k4⟩ := lent_ok h e.ok hx ho ha hq hv hw
       rw [show e.f = f from findE_ok he] at k1
       exact ⟨n, out, k1, _, hr, _, ρ', put_gh k2, k3.putD hd k4⟩
      ·cases hr
     ·cases hr
    ·cases hr
   ·cases hr
 ·cases hr
theorem callQT_ok (h : RelR fr b N ρ t g) {Γ : List (Entry S pr)} {f : Nat} {dst : Option Nat} (hd : dstK N dst = true) {res : Nat} {args : List (Nat × PX)} {K : TS S → Option α} {r : α} (hr : callQT Γ f dst res args t K = some r) :
  ∃ n o, (callE (runN pr n) (b + res) f (args.map fun p => (p.1, p.2.ev g.ts))).run g.hp = some o ∧ o.ws = [] ∧ o.fz = [] ∧ ∃ t', K t' = some r ∧ Rel fr b N t' ⟨putT g.ts dst o.d, o.on g.hp⟩ := by
 unfold callQT at hr
 split at hr
 ·rename_i e he
  split at hr
  ·rename_i hc
   obtain ⟨n, o, k1, k2, k3⟩ := callP_ok h hd hr
   rw [show e.f = f from findE_ok he] at k1
   exact ⟨n, o, k1, (k3 hc).1, (k3 hc).2, k2⟩
  ·cases hr
 ·cases hr
theorem stepT_ok (h : RelR fr b N ρ t g) {Γ : List (Entry S pr)} {dst : Option Nat} {res : Nat} {cd : Code} {op : POp} {gu : Option (Nat × Bool)} {aft : List Nat} {K : TS S → Option α} {r : α} (hg : guardOk g.ts gu = true) (hw : wantedP g.ts gu = true) (hr : stepT Γ N dst res cd op t K = some r) :
  ∃ n g1, stepO (runN pr n) b ⟨dst, op, gu, aft, res⟩ g = some g1 ∧ ∃ t', K t' = some r ∧ Rel fr b N t' g1 := by
 unfold stepT at hr
 split at hr
 ·cases hr
 ·rename_i hd
  split at hr
  ·obtain ⟨n, o, k1, k2⟩ := callT_ok h hd hr
   exact ⟨n, _, stepO_op hg hw k1, k2⟩
  ·obtain ⟨n, o, k1, k2, k3, k4⟩ := callQT_ok h hd hr
   refine ⟨n, _, stepO_op hg hw (out := o) ?_, k4⟩
   simp only [opE, run_bindE, k1, Option.bind_some, k2, k3, List.isEmpty_nil, Bool.and_self, if_true, Eff.run]
  ·split at hr
   ·rename_i f hx
    split at hr
    ·rename_i hf
     obtain ⟨n, o, k1, k2, k3, k4⟩ := callQT_ok h hd hr
     refine ⟨n, _, stepO_op hg hw (out := o) ?_, k4⟩
     have e : PX.ev g.ts _ = .fn f := h.ev hx
     simp only [opE, e, hf, if_true, run_bindE, k1, Option.bind_some, k2, k3, List.isEmpty_nil, Bool.and_self, Eff.run]
    ·cases hr
   ·cases hr
  ·obtain ⟨out, ρ', t', k1, k2, k3⟩ := op1_ok h hd hr (runN pr 0)
   exact ⟨0, _, stepO_op hg hw k1, t', k3, Rel.of k2⟩
inductive AO where
 | o (dst : Option Nat) (op : POp) (res : Nat) (cd : Code)
 | g (dst : Option Nat) (op : POp) (gt : Nat) (gb : Bool) (res : Nat) (cd : Code)
 | fz (i : Nat)
 | fzA (i j : Nat)
 | h (dst : Option Nat) (f : Nat) (args : List PX) (C : HC) (res : Nat)
def AO.er : List AO → List PO
 | [] => []
 | .o dst op res _ :: os => ⟨dst, op, none, [], res⟩ :: AO.er os
 | .g dst op gt gb res _ :: os => ⟨dst, op, some (gt, gb), [], res⟩ :: AO.er os
 | .fz _ :: os => AO.er os
 | .fzA _ _ :: os => AO.er os
 | .h dst f args _ res :: os => ⟨dst, .callH f args, none, [], res⟩ :: AO.er os
def gOp (Γ : List (Entry S pr)) (N : Nat) (dst : Option Nat) (op : POp) (gt : Nat) (gb : Bool) (res : Nat) (cd : Code) (t : TS S) (K : TS S → Option α) : Option α := match look t.sl gt with
 | some .skip => (match dstK N dst with
  | true => K (t.putD dst .skip)
  | false => none)
 | some (.one _ .bool v) => (match Nat.blt gt N && dstK N dst with
  | true => cond v (match gb with
    | true => stepT Γ N dst res cd op (t.put gt (boolV true)) K
    | false => K ((t.put gt (boolV true)).putD dst .skip))
   (match gb with
    | true => K ((t.put gt (boolV false)).putD dst .skip)
    | false => stepT Γ N dst res cd op (t.put gt (boolV false)) K)
  | false => none)
 | _ => none
def opsT (Γ : List (Entry S pr)) (N : Nat) : List AO → TS S → (TS S → Option α) → Option α
 | [], t, K => K t
 | .o dst op res cd :: os, t, K => stepT Γ N dst res cd op t fun t => opsT Γ N os t K
 | .g dst op gt gb res cd :: os, t, K => gOp Γ N dst op gt gb res cd t fun t => opsT Γ N os t K
 | .fz i :: os, t, K => (match look t.sl i with
  | some (.whole o _) => (match t.freeze o with
   | some t => opsT Γ N os t K
   | none => none)
  | some (.win o _ _ _) => (match t.freeze o with
   | some t => opsT Γ N os t K
   | none => none)
  | some _ => opsT Γ N os t K
  | none => none)
 | .fzA i j :: os, t, K => (match look t.sl i with
  | some (.agg vs) => (match vs[j]? with
   | some (.whole o _) => (match t.freeze o with
    | some t => opsT Γ N os t K
    | none => none)
   | some _ => opsT Γ N os t K
   | none => none)
  | some _ => opsT Γ N os t K
  | none => none)
 | .h dst f args C res :: os, t, K => callHG Γ N dst f args C t fun t => opsT Γ N os t K
theorem Steps.gh {os : List PO} {Q : St → Prop} (h : GhK s g) (k : Steps pr b os g Q) : Steps pr b os s (fun s' => ∃ g', GhK s' g' ∧ Q g') := by
 obtain ⟨n, g', k1, k2⟩ := k
 obtain ⟨s', k3, k4⟩ := seqR_gh (runN_gh pr n) h k1
 exact ⟨n, s', k3, g', k4, k2⟩
theorem put_same {i : Nat} {d : D} {ts : List D} (hi : i < ts.length) (h : ts.getD i .undef = d) : ts.set i d = ts := by
 refine List.ext_getElem? fun j => ?_
 rw [List.getElem?_set]
 split
 ·rename_i e; subst e
  rw [← h, List.getD_eq_getElem?_getD, List.getElem?_eq_getElem hi]
  rfl
 ·rfl
theorem opsT_ok {Γ : List (Entry S pr)} : ∀ {os : List AO} {t : TS S} {g : St} {ρ : Rho} {K : TS S → Option α} {r : α}, opsT Γ N os t K = some r → RelR fr b N ρ t g → Steps pr b (AO.er os) g (fun s' => ∃ t', K t' = some r ∧ Rel fr b N t' s')
 | [], t, g, ρ, K, r, hr, h => Steps.nil ⟨t, hr, Rel.of h⟩
 | .o dst op res cd :: os, t, g, ρ, K, r, hr, h => by
  obtain ⟨n, g1, k1, t', k2, g2, ρ2, k3, k4⟩ := stepT_ok (aft := []) h (gu := none) rfl rfl hr
  refine Steps.cons k1 ?_
  refine Steps.mono (Steps.gh k3 (opsT_ok k2 k4)) ?_
  rintro s' ⟨g', q1, t2, q2, q3⟩
  exact ⟨t2, q2, q3.gh q1⟩
 | .g dst op gt gb res cd :: os, t, g, ρ, K, r, hr, h => by
  have hr : gOp Γ N dst op gt gb res cd t (fun t => opsT Γ N os t K) = some r := hr
  have go : ∀ {t1 : TS S} {g1 : St} {n : Nat}, stepO (runN pr n) b ⟨dst, op, some (gt, gb), [], res⟩ g = some g1 → Rel fr b N t1 g1 → opsT Γ N os t1 K = some r → Steps pr b (AO.er (.g dst op gt gb res cd :: os)) g (fun s' => ∃ t', K t' = some r ∧ Rel fr b N t' s') := by
   rintro t1 g1 n k1 ⟨g2, ρ2, k3, k4⟩ k2
   refine Steps.cons k1 ?_
   refine Steps.mono (Steps.gh k3 (opsT_ok k2 k4)) ?_
   rintro s' ⟨g', q1, t2, q2, q3⟩
   exact ⟨t2, q2, q3.gh q1⟩
  unfold gOp at hr
  split at hr
  ·rename_i hs
   split at hr
   ·rename_i hd
    have e : g.ts.getD gt .undef = .skip := h.sl _ _ hs
    refine go (n := 0) (g1 := ⟨putT g.ts dst .skip, g.hp⟩) ?_ (Rel.of (h.putD hd (show VS ρ g.hp .skip .skip from rfl))) hr
    simp only [stepO, guardOk, e, wantedP, if_true, Bool.false_eq_true, if_false]
   ·cases hr
  ·rename_i m v hs
   split at hr
   ·rename_i hc
    simp only [Bool.and_eq_true] at hc
    have hi : gt < N := by simpa using hc.1
    have e : g.ts.getD gt .undef = .bool v := (show Cl g.hp m (.bool v) _ from (h.sl _ _ hs).1).sc rfl
    have hput : ∀ w : Bool, v = w → RelR fr b N ρ (t.put gt (boolV w)) g := fun w hw => by
     subst hw
     have := h.put hi (boolV_ok (S := S) (ρ := ρ) (H := g.hp) v)
     rw [put_same (by rw [h.len]; exact hi) e] at this
     exact this
    have hok : guardOk g.ts (some (gt, gb)) = true := by simp only [guardOk, e]
    cases v with
    | true =>
     simp only [cond_true] at hr
     cases gb with
     | true =>
      obtain ⟨n, g1, k1, t', k2, k3⟩ := stepT_ok (aft := []) (hput true rfl) hok (by simp only [wantedP, e]; rfl) hr
      exact go k1 k3 k2
     | false =>
      refine go (n := 0) (g1 := ⟨putT g.ts dst .skip, g.hp⟩) ?_ (Rel.of ((hput true rfl).putD hc.2 (show VS ρ g.hp .skip .skip from rfl))) hr
      simp only [stepO, hok, wantedP, e, if_true]
      rfl
    | false =>
     simp only [cond_false] at hr
     cases gb with
     | true =>
      refine go (n := 0) (g1 := ⟨putT g.ts dst .skip, g.hp⟩) ?_ (Rel.of ((hput false rfl).putD hc.2 (show VS ρ g.hp .skip .skip from rfl))) hr
      simp only [stepO, hok, wantedP, e, if_true]
      rfl
     | false =>
      obtain ⟨n, g1, k1, t', k2, k3⟩ := stepT_ok (aft := []) (hput false rfl) hok (by simp only [wantedP, e]; rfl) hr
      exact go k1 k3 k2
   ·cases hr
  ·cases hr
 | .fz i :: os, t, g, ρ, K, r, hr, h => by
  simp only [opsT] at hr
  have go : ∀ {o : Nat} {t1 : TS S}, t.freeze o = some t1 → opsT Γ N os t1 K = some r → Steps pr b (AO.er (.fz i :: os)) g (fun s' => ∃ t', K t' = some r ∧ Rel fr b N t' s') := by
   intro o t1 ht k2
   obtain ⟨g2, k3, k4⟩ := h.shut ht
   refine Steps.mono (Steps.gh k3 (opsT_ok (os := os) k2 k4)) ?_
   rintro s' ⟨g', q1, t2, q2, q3⟩
   exact ⟨t2, q2, q3.gh q1⟩
  split at hr
  ·split at hr
   ·exact go (by assumption) hr
   ·cases hr
  ·split at hr
   ·exact go (by assumption) hr
   ·cases hr
  ·exact opsT_ok (os := os) hr h
  ·cases hr
 | .fzA i j :: os, t, g, ρ, K, r, hr, h => by
  simp only [opsT] at hr
  have go : ∀ {o : Nat} {t1 : TS S}, t.freeze o = some t1 → opsT Γ N os t1 K = some r → Steps pr b (AO.er (.fzA i j :: os)) g (fun s' => ∃ t', K t' = some r ∧ Rel fr b N t' s') := by
   intro o t1 ht k2
   obtain ⟨g2, k3, k4⟩ := h.shut ht
   refine Steps.mono (Steps.gh k3 (opsT_ok (os := os) k2 k4)) ?_
   rintro s' ⟨g', q1, t2, q2, q3⟩
   exact ⟨t2, q2, q3.gh q1⟩
  split at hr
  ·split at hr
   ·split at hr
    ·exact go (by assumption) hr
    ·cases hr
   ·exact opsT_ok (os := os) hr h
   ·cases hr
  ·exact opsT_ok (os := os) hr h
  ·cases hr
 | .h dst f args C res :: os, t, g, ρ, K, r, hr, h => by
  have hr : callHG Γ N dst f args C t (fun t => opsT Γ N os t K) = some r := hr
  unfold callHG at hr
  split at hr
  ·rename_i e he
   obtain ⟨n, g1, k1, t', g2, ρ2, k2, k3, k4⟩ := callHT_ok (res := res) h hr
   rw [show e.f = f from findE_ok he] at k1
   refine Steps.cons k1 ?_
   refine Steps.mono (Steps.gh k3 (opsT_ok k2 k4)) ?_
   rintro s' ⟨g', q1, t2, q2, q3⟩
   exact ⟨t2, q2, q3.gh q1⟩
  ·cases hr
end
end Go.Pi
