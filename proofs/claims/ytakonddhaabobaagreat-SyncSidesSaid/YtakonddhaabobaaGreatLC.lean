import Derived.Test.YtakonddhaabobaaGreatKT
import Derived.Test.YtakonddhaabobaaGreatPF
set_option linter.all false
namespace Go.Pi
set_option linter.unusedVariables false
theorem bind_rd {α β : Type} {f : α → Eff β} {H : Heap} : ∀ {e : Eff α} {a : α}, e.run H = some a → (e.bind f).rd H = e.rd H ++ (f a).rd H ∧ (e.bind f).lv H = e.lv H ++ (f a).lv H
 | .pure a, _, h => by simp only [Eff.run, Option.some.injEq] at h; subst h; exact ⟨rfl, rfl⟩
 | .fail, _, h => by simp [Eff.run] at h
 | .get id k, a, h => by
  simp only [Eff.run] at h
  split at h
  ·rename_i sz es lv hq
   obtain ⟨h1, h2⟩ := bind_rd (f := f) (e := k sz es) h
   simp only [Eff.bind, Eff.rd, Eff.lv, hq, h1, h2, List.cons_append]
   exact ⟨trivial, trivial⟩
  ·cases h
 | .live id k, a, h => by
  simp only [Eff.run] at h
  split at h
  ·obtain ⟨h1, h2⟩ := bind_rd (f := f) (e := k) h
   simp only [Eff.bind, Eff.rd, Eff.lv, h1, h2, List.cons_append]
   exact ⟨trivial, trivial⟩
  ·cases h
 | .new id k, a, h => by
  simp only [Eff.run] at h
  split at h
  ·split at h
   ·obtain ⟨h1, h2⟩ := bind_rd (f := f) (e := k) h
    simp only [Eff.bind, Eff.rd, Eff.lv, h1, h2, List.cons_append]
    exact ⟨trivial, trivial⟩
   ·cases h
  ·cases h
def Meets (H : Heap) {α : Type} (e : Eff α) (l : List Nat) : Prop := (∀ j ∈ e.rd H, j ∈ l) ∧ e.lv H = []
theorem eachC_rd {H : Heap} {f : D → Eff (D × List Nat)} (hf : ∀ d x, (f d).run H = some x → Meets H (f d) x.2) : ∀ {ds : List D} {x : List D × List Nat}, (eachC f ds).run H = some x → Meets H (eachC f ds) x.2
 | [], x, h => ⟨fun j hj => (by cases hj), rfl⟩
 | d :: ds, x, h => by
  have h' := h
  simp only [eachC, run_bindE, Option.bind_eq_some_iff, Eff.run, Option.some.injEq] at h'
  obtain ⟨y, h1, z, h2, rfl⟩ := h'
  obtain ⟨a1, a2⟩ := hf d y h1
  obtain ⟨b1, b2⟩ := eachC_rd hf h2
  unfold Meets
  simp only [eachC, (bind_rd h1).1, (bind_rd h1).2, (bind_rd h2).1, (bind_rd h2).2, Eff.rd, Eff.lv, List.append_nil, a2, b2]
  refine ⟨fun j hj => ?_, trivial⟩
  rcases List.mem_append.1 hj with hj | hj
  ·exact List.mem_append_left _ (a1 j hj)
  ·exact List.mem_append_right _ (b1 j hj)
theorem eachE_rd {H : Heap} {f : D → Eff (D × List Nat)} (hf : ∀ d x, (f d).run H = some x → Meets H (f d) x.2) : ∀ {ds : List (List D)} {x : List (List D) × List Nat}, (eachE f ds).run H = some x → Meets H (eachE f ds) x.2
 | [], x, h => ⟨fun j hj => (by cases hj), rfl⟩
 | d :: ds, x, h => by
  have h' := h
  simp only [eachE, run_bindE, Option.bind_eq_some_iff, Eff.run, Option.some.injEq] at h'
  obtain ⟨y, h1, z, h2, rfl⟩ := h'
  obtain ⟨a1, a2⟩ := eachC_rd hf h1
  obtain ⟨b1, b2⟩ := eachE_rd hf h2
  unfold Meets
  simp only [eachE, (bind_rd h1).1, (bind_rd h1).2, (bind_rd h2).1, (bind_rd h2).2, Eff.rd, Eff.lv, List.append_nil, a2, b2]
  refine ⟨fun j hj => ?_, trivial⟩
  rcases List.mem_append.1 hj with hj | hj
  ·exact List.mem_append_left _ (a1 j hj)
  ·exact List.mem_append_right _ (b1 j hj)
theorem frz_rd {H : Heap} : ∀ (n : Nat) (d : D) (x : D × List Nat), (frz n d).run H = some x → Meets H (frz n d) x.2
 | 0, d, x, h => by simp [frz, Eff.run] at h
 | n + 1, d, x, h => by
  have ih := frz_rd (H := H) n
  cases d <;> simp only [frz] at h
  case ref id off len =>
   simp only [Eff.run] at h
   split at h
   ·rename_i sz es lv hh
    split at h
    ·rename_i hc
     have h' := h
     simp only [run_bindE, Option.bind_eq_some_iff, Eff.run, Option.some.injEq] at h'
     obtain ⟨y, h1, rfl⟩ := h'
     obtain ⟨a1, a2⟩ := eachE_rd ih h1
     unfold Meets
     simp only [frz, Eff.rd, Eff.lv, hh]
     rw [if_pos hc]
     simp only [(bind_rd h1).1, (bind_rd h1).2, Eff.rd, Eff.lv, List.append_nil, a2]
     refine ⟨fun j hj => ?_, trivial⟩
     simp only [List.mem_cons] at hj ⊢
     rcases hj with hj | hj
     ·exact .inl hj
     ·exact .inr (a1 j hj)
    ·simp [Eff.run] at h
   ·cases h
  case ptr id off =>
   simp only [Eff.run] at h
   split at h
   ·rename_i sz es lv hh
    split at h
    ·rename_i e he
     have h' := h
     simp only [run_bindE, Option.bind_eq_some_iff, Eff.run, Option.some.injEq] at h'
     obtain ⟨y, h1, rfl⟩ := h'
     obtain ⟨a1, a2⟩ := eachC_rd ih h1
     unfold Meets
     simp only [frz, Eff.rd, Eff.lv, hh, he]
     simp only [(bind_rd h1).1, (bind_rd h1).2, Eff.rd, Eff.lv, List.append_nil, a2]
     refine ⟨fun j hj => ?_, trivial⟩
     simp only [List.mem_cons] at hj ⊢
     rcases hj with hj | hj
     ·exact .inl hj
     ·exact .inr (a1 j hj)
    ·simp [Eff.run] at h
   ·cases h
  case agg cs =>
   have h' := h
   simp only [run_bindE, Option.bind_eq_some_iff, Eff.run, Option.some.injEq] at h'
   obtain ⟨y, h1, rfl⟩ := h'
   obtain ⟨a1, a2⟩ := eachC_rd ih h1
   unfold Meets
   simp only [frz, (bind_rd h1).1, (bind_rd h1).2, Eff.rd, Eff.lv, List.append_nil, a2]
   exact ⟨a1, trivial⟩
  case tup => simp [Eff.run] at h
  case own => simp [Eff.run] at h
  all_goals
   simp only [Eff.run, Option.some.injEq] at h
   subst h
   exact ⟨fun j hj => (by cases hj), rfl⟩
theorem prep_rd {H : Heap} : ∀ {as : List (Nat × D)} {j : Nat} {p : Prep}, (∀ a ∈ as, a.1 = 0) → (prep as j).run H = some p → Meets H (prep as j) p.ids
 | [], j, p, _, h => ⟨fun j hj => (by cases hj), rfl⟩
 | (mm, d) :: as, j, p, h0, h => by
  have hm : mm = 0 := h0 (mm, d) (by simp)
  subst hm
  have h' := h
  simp only [prep, run_bindE, Option.bind_eq_some_iff, Eff.run, Option.some.injEq] at h'
  obtain ⟨y, h1, z, h2, rfl⟩ := h'
  obtain ⟨a1, a2⟩ := frz_rd _ _ _ h1
  obtain ⟨b1, b2⟩ := prep_rd (fun a ha => h0 a (by simp [ha])) h2
  unfold Meets
  simp only [prep, (bind_rd h1).1, (bind_rd h1).2, (bind_rd h2).1, (bind_rd h2).2, Eff.rd, Eff.lv, List.append_nil, a2, b2]
  refine ⟨fun j hj => ?_, trivial⟩
  rcases List.mem_append.1 hj with hj | hj
  ·exact List.mem_append_left _ (a1 j hj)
  ·exact List.mem_append_right _ (b1 j hj)
theorem newL_rd {H : Heap} {o : Out} : ∀ {is : List Nat}, (newL is (.pure o)).rd H = [] ∧ (newL is (.pure o)).lv H = is
 | [] => ⟨rfl, rfl⟩
 | i :: is => by
  obtain ⟨h1, h2⟩ := newL_rd (H := H) (o := o) (is := is)
  exact ⟨h1, by simp only [newL, Eff.lv, h2]⟩
section
variable {S : Nat → Type} [Sg : Sig S] {ρ ρ' : Rho} {H H' : Heap} {fr : Fr} {b N : Nat} {t : TS S} {s g : St} {α : Type} {pr : Prog}
theorem argsA_zero {t : TS S} {kp : Bool} : ∀ {ps : List PK} {args : List (Nat × PX)} {p : Flds S (pcs ps)}, argsA t kp ps args = some p → ∀ a ∈ args, a.1 = 0
 | [], [], _, _ => fun a ha => nomatch ha
 | .val c :: ps, (m, x) :: as, p, h => fun a ha => by
  simp only [argsA] at h
  split at h
  ·rename_i hm _ hp
   rcases List.mem_cons.mp ha with rfl | ha
   ·exact Nat.eq_of_beq_eq_true hm
   ·exact argsA_zero hp a ha
  ·cases h
 | .ptr c :: ps, (m, x) :: as, p, h => fun a ha => by
  simp only [argsA] at h
  split at h
  ·rename_i hm _ hp
   rcases List.mem_cons.mp ha with rfl | ha
   ·exact Nat.eq_of_beq_eq_true hm
   ·exact argsA_zero hp a ha
  ·cases h
 | .fn n :: ps, (m, x) :: as, p, h => fun a ha => by
  simp only [argsA] at h
  split at h
  ·rename_i hm _
   split at h
   ·rcases List.mem_cons.mp ha with rfl | ha
    ·exact Nat.eq_of_beq_eq_true hm
    ·exact argsA_zero h a ha
   ·cases h
  ·cases h
 | [], _ :: _, _, h => nomatch h
 | .val _ :: _, [], _, h => nomatch h
 | .ptr _ :: _, [], _, h => nomatch h
 | .fn _ :: _, [], _, h => nomatch h
theorem lent_okD (h : RelR fr b N ρ t g) {pn : Option Nat} {f : Nat} {c : Code} {ps : List PK} {rs : List RK} {F : T S c × Flds S (pcs ps) → Option (T S c × Flds S (rcs rs))} (hF : LOk pr f c ps rs F) {x : PX} {ob : Nat} {vs : List (Val S)} {a : T S c} {args : List (Nat × PX)} {p : Flds S (pcs ps)} {r : T S c × Flds S (rcs rs)} {res : Nat} {q : List (Val S) × TS S}
  (hx : evK t x = some (.ptr ob [] 0 0)) (ho : look t.hp ob = some (.box pn vs)) (ha : mk 11 c vs = some a) (hp : argsA t false ps args = some p) (hr : F (a, p) = some r) (hi : impT rs r.2 res (t.setO ob (.box pn [.one 1 c r.1])) = some q) (hv : rs.all valR = true) :
  ∃ n o g' ρ', (callE (runN pr n) (b + res) f (((2, x) :: args).map fun p => (p.1, p.2.ev g.ts))).run g.hp = some o ∧ GhK ⟨g.ts, o.on g.hp⟩ g' ∧ RelR fr b N ρ' q.2 g' ∧ VS ρ' g'.hp (retT rs q.1) o.d ∧ (∀ o p x, ρ o p = some x → ρ' o p = some x) ∧ HLe g.hp g'.hp ∧ ∃ id, ρ ob [] = some (some id) ∧ (∀ j ∈ (callE (runN pr n) (b + res) f (((2, x) :: args).map fun p => (p.1, p.2.ev g.ts))).rd g.hp, dead g.hp j ∨ j = id) ∧ (callE (runN pr n) (b + res) f (((2, x) :: args).map fun p => (p.1, p.2.ev g.ts))).lv g.hp = [id] ∧ o.ws.map (·.1) = [id] ∧ ∀ j ∈ o.fz, dead g.hp j := by
 obtain ⟨ds, ids, p1, p2, p3⟩ := argsA_ok h (j := 1) hp
 obtain ⟨id, sz, es, c1, c2, c3, c4⟩ := h.ev hx
 obtain ⟨id', cs, k1, k2, k3, k9⟩ := h.hp _ _ ho
 rw [c1] at k1; cases k1
 rw [c2] at k2; cases k2
 rw [Nat.zero_mul, Nat.zero_add] at c4
 have hcs := mk_ok (by omega) ha k3
 have hw : widths vs = W (S := S) c := by rw [← k3.len, ← hcs.len, encs_len]
 rw [hw] at c2
 obtain ⟨z, z1, z2, z3⟩ := cls_each (P := fun _ => False) (Nat.le_refl 11) hcs
 have z3 : ∀ i ∈ z.2, dead g.hp i := fun i hi => (z3 i hi).elim (fun q => q) fun q => q.elim
 have zE : (eachE (frz fuelF) [cs]).run g.hp = some ([z.1], z.2) := by
  have : (eachE (frz 11) [cs]).run g.hp = some ([z.1], z.2) := by simp [eachE, run_bindE, z1, Eff.run]
  exact eachE_up (by decide) this
 have hids : ∀ j ∈ z.2 ++ ids, dead g.hp j := by
  intro j hj
  simp at hj
  rcases hj with hj | hj
  ·exact z3 j hj
  ·rcases p3 j hj with h | ⟨h, _⟩
   ·exact h
   ·cases h
 have hprep : (prep (((2, x) :: args).map fun p => (p.1, p.2.ev g.ts)) 0).run g.hp = some ⟨.ptr 0 0 :: ds, [.row (W (S := S) c) [z.1] true], z.2 ++ ids, [(id, true)]⟩ := by
  simp only [List.map_cons, c4, prep, Eff.run, c2, if_true, run_bindE, zE, Option.bind_some, p1]
 obtain ⟨n, d, H', r1, r2, xs, hd', rd, cs2, ry, e1, e2, e3, e4, e5, e6, e7, e8, e9, e10⟩ := hF (a, p) r hr z.1 ds (nrs_cl z2) p2
 have hidl : id < g.hp.length := hat_ltK (by rw [c2]; intro e; cases e)
 have hs1 : RelR fr b N ρ (t.setO ob (.box pn [.one 1 c r.1])) ⟨g.ts, g.hp.set id (.row (W (S := S) c) [cs2] true)⟩ := h.upd (es := [cs]) (es' := [cs2]) c1 c2 rfl fun hx e1 _ => ⟨id, cs2, c1, by rw [e1]; simp [widths, width], VCs.single (cls_heap (HLe.nil _) e6), k9⟩
 obtain ⟨g', ρ', q1, q2, q3, q4, q5⟩ := imp_ok (k := res) e4 (GhK.refl ⟨g.ts, g.hp.set id (.row (W (S := S) c) [cs2] true)⟩) hs1 hi
 have hne : ∀ j, dead g.hp j → j ≠ id := fun j hj e => by
  obtain ⟨_, _, hj⟩ := hj
  rw [e, c2] at hj; cases hj
 have hl : (impL (b + res) xs).1.length = rs.length := by
  have : ∀ {l : List D} {r : Nat}, (impL r l).1.length = l.length := by
   intro l
   induction l with
   | nil => intro r; rfl
   | cons d l ih => intro r; simp [impL, ih]
  rw [this, e4.len]
 refine ⟨n, ⟨recomp d (impL (b + res) xs).1, (id, .row (W (S := S) c) [cs2] true) :: (impL (b + res) xs).2, z.2 ++ ids⟩, g', ρ', ?_, ?_, q2, ret_ok r2 hl q4, q3.map, (HLe_set (fun _ _ e => by rw [c2] at e; cases e)).tr q3.hle, id, c1, ?_, ?_, ?_, hids⟩
 ·have hap : apart [id] (z.2 ++ ids) = true := by
   simp only [apart, List.all_eq_true, Bool.not_eq_true', List.contains_eq_mem, decide_eq_false_iff_not]
   intro j hj hm
   simp only [List.mem_singleton] at hj
   exact hne j (hids j hm) hj
  have hnd : nodup [id] = true := by simp [nodup]
  unfold callE
  rw [run_bindE, hprep]
  simp only [Option.bind_some, List.map_cons, List.map_nil, hap, hnd, Bool.and_self, if_true, r1, finish, e1, expB_id e5 id, boxKs]
  simp only [e2, e3, e7, e8, e9, e10, Bool.and_self, if_true, List.isEmpty_cons, Bool.false_and, Bool.false_eq_true, if_false]
  rw [newL_run (fun j hj => ?_)]
  ·rfl
  ·obtain ⟨f1, f2⟩ := q5 j hj
   rw [hat_setK hidl] at f1
   split at f1
   ·cases f1
   ·exact ⟨f1, by simpa using f2⟩
 ·show GhK ⟨g.ts, doFz (doWs (g.hp.set id _) _) _⟩ g'
  rw [doFz_dead (fun j hj => ?_)]
  ·exact q1
  ·obtain ⟨sz', es', hj'⟩ := hids j hj
   have hn := hne j (hids j hj)
   have h1 : hat (g.hp.set id (.row (W (S := S) c) [cs2] true)) j = .row sz' es' false := by rw [hat_setK hidl, if_neg hn]; exact hj'
   refine ⟨sz', es', ?_⟩
   rw [hat_doWs (fun j' hj' e => ?_)]
   ·exact h1
   ·subst e
    have := (q5 j hj').1
    rw [h1] at this; cases this
 ·intro j hj
  have hz : ∀ a ∈ args.map (fun p => (p.1, p.2.ev g.ts)), a.1 = 0 := fun a ha => by
   obtain ⟨y, hy, rfl⟩ := List.mem_map.mp ha
   exact argsA_zero hp y hy
  unfold callE at hj
  rw [(bind_rd hprep).1] at hj
  rcases List.mem_append.1 hj with hj | hj
  ·simp only [List.map_cons, c4, prep, Eff.rd, c2, if_true] at hj
   rw [(bind_rd zE).1, (bind_rd p1).1] at hj
   simp only [List.mem_cons, List.mem_append, Eff.rd, List.not_mem_nil, or_false] at hj
   rcases hj with hj | hj | hj
   ·exact .inr hj
   ·exact .inl (hids j (List.mem_append_left _ ((eachE_rd (frz_rd _) zE).1 j hj)))
   ·exact .inl (hids j (List.mem_append_right _ ((prep_rd hz p1).1 j hj)))
  ·exfalso
   have hap : apart [id] (z.2 ++ ids) = true := by
    simp only [apart, List.all_eq_true, Bool.not_eq_true', List.contains_eq_mem, decide_eq_false_iff_not]
    intro j hj hm
    simp only [List.mem_singleton] at hj
    exact hne j (hids j hm) hj
   have hnd : nodup [id] = true := by simp [nodup]
   simp only [List.map_cons, List.map_nil, hap, hnd, Bool.and_self, if_true, r1, finish, e1, expB_id e5 id, boxKs, Option.bind_some] at hj
   simp only [e2, e3, e7, e8, e9, e10, Bool.and_self, if_true, List.isEmpty_cons, Bool.false_and, Bool.false_eq_true, if_false, newL_rd.1] at hj
   cases hj
 ·have hz : ∀ a ∈ args.map (fun p => (p.1, p.2.ev g.ts)), a.1 = 0 := fun a ha => by
   obtain ⟨y, hy, rfl⟩ := List.mem_map.mp ha
   exact argsA_zero hp y hy
  unfold callE
  rw [(bind_rd hprep).2]
  have hap : apart [id] (z.2 ++ ids) = true := by
   simp only [apart, List.all_eq_true, Bool.not_eq_true', List.contains_eq_mem, decide_eq_false_iff_not]
   intro j hj hm
   simp only [List.mem_singleton] at hj
   exact hne j (hids j hm) hj
  have hnd : nodup [id] = true := by simp [nodup]
  simp only [List.map_cons, List.map_nil, hap, hnd, Bool.and_self, if_true, r1, finish, e1, expB_id e5 id, boxKs, Option.bind_some]
  simp only [e2, e3, e7, e8, e9, e10, Bool.and_self, if_true, List.isEmpty_cons, Bool.false_and, Bool.false_eq_true, if_false, newL_rd.2, val_ws hv e4, List.map_nil, List.append_nil]
  simp only [c4, prep, Eff.lv, c2, if_true]
  rw [(bind_rd zE).2, (bind_rd p1).2, (eachE_rd (frz_rd _) zE).2, (prep_rd hz p1).2]
  rfl
 ·rw [val_ws hv e4]
  rfl
end
end Go.Pi
namespace Go.Pi
set_option linter.unusedVariables false
def refOf : D → Option Nat
 | .ref id _ _ => some id
 | .ptr id _ => some id
 | _ => none
def spO : POp → Option (Nat × List PX)
 | .load _ _ x => some (0, [x])
 | .indexAddr _ x _ => some (0, [x])
 | .alloc _ => some (1, [])
 | .buildSlice _ _ _ _ => some (1, [])
 | .store _ a _ => some (2, [a])
 | _ => none
theorem opE_touch {call : CallF} {ρ : PX → D} {r : Nat} {op : POp} {H : Heap} {out : Out} {k : Nat} {xs : List PX} (hs : spO op = some (k, xs)) (h : (opE call ρ r op).run H = some out) :
  (∀ id ∈ (opE call ρ r op).rd H, ∃ x ∈ xs, refOf (ρ x) = some id) ∧
  (∀ id ∈ (opE call ρ r op).lv H, (id = r ∧ k = 1) ∨ ∃ x ∈ xs, refOf (ρ x) = some id ∧ ∃ sz es, hat H id = .row sz es true) ∧
  (∀ w ∈ out.ws, (w.1 = r ∧ k = 1) ∨ ∃ x ∈ xs, refOf (ρ x) = some w.1 ∧ ∃ sz es, hat H w.1 = .row sz es true) ∧ out.fz = [] ∧ (k = 0 → out.ws = []) := by
 have qO : ∀ {d : Option D} {out : Out}, (quietO d).run H = some out → out.ws = [] ∧ out.fz = [] ∧ (quietO d).rd H = [] ∧ (quietO d).lv H = [] := by
  intro d out h
  cases d with
  | none => cases h
  | some d => cases h; exact ⟨rfl, rfl, rfl, rfl⟩
 cases op <;> cases hs
 case load ag n x =>
  simp only [opE] at h ⊢
  cases hx : ρ x with
  | ptr id off =>
   simp only [hx, Eff.run] at h
   split at h
   ·rename_i sz es lv hh
    simp only [hx, Eff.rd, Eff.lv, hh]
    cases he : es[off / sz]? with
    | none => rw [he] at h; cases h
    | some e =>
     rw [he] at h
     simp only at h
     split at h
     ·obtain ⟨a1, a2, a3, a4⟩ := qO h
      rename_i hc
      simp only [hc, if_true, a3, a4, a1, a2]
      exact ⟨fun j hj => ⟨x, by simp, by simp at hj; subst hj; rw [hx]; rfl⟩, by simp, by simp, trivial, fun _ => trivial⟩
     ·cases h
   ·cases h
  | fptr cs =>
   simp only [hx] at h ⊢
   split at h
   ·rename_i hc
    obtain ⟨a1, a2, a3, a4⟩ := qO h
    simp only [hc, if_true, a3, a4, a1, a2]
    exact ⟨by simp, by simp, by simp, trivial, fun _ => trivial⟩
   ·cases h
  | _ => simp only [hx] at h; cases h
 case indexAddr sz x i =>
  simp only [opE] at h ⊢
  cases hi : ρ i with
  | int k z =>
   simp only [hi] at h ⊢
   cases hx : ρ x with
   | ref id off len =>
    simp only [hx, Eff.run] at h
    split at h
    ·rename_i sz' es lv hh
     simp only [hx, Eff.rd, Eff.lv, hh]
     split at h
     ·rename_i hc
      cases h
      simp only [hc, if_true]
      exact ⟨fun j hj => ⟨x, by simp, by simp [quiet, Eff.rd] at hj; subst hj; rw [hx]; rfl⟩, by simp [quiet, Eff.lv], by simp, by simp, by simp⟩
     ·cases h
    ·cases h
   | lst s es =>
    simp only [hx] at h ⊢
    split at h
    ·rename_i hc
     simp only [hc, if_true]
     cases he : es[z.toNat]? with
     | none => rw [he] at h; cases h
     | some e => rw [he] at h; cases h; exact ⟨by simp [quiet, Eff.rd], by simp [quiet, Eff.lv], by simp, by simp, by simp⟩
    ·cases h
   | _ => simp only [hx] at h; cases h
  | _ => simp only [hi] at h; cases h
 case alloc z =>
  simp only [opE, Eff.run] at h
  split at h
  ·split at h
   ·cases h
    simp only [opE, Eff.rd, Eff.lv]
    exact ⟨by simp, fun id hid => .inl ⟨by simpa using hid, by first | rfl | trivial⟩, fun w hw => .inl ⟨by simp at hw; rw [hw], by first | rfl | trivial⟩, by first | rfl | trivial, by simp⟩
   ·cases h
  ·cases h
 case buildSlice sz n z ps =>
  simp only [opE] at h ⊢
  split at h
  ·rename_i hc
   rw [if_pos hc]
   split at h
   ·rename_i es he
    try simp only [he]
    simp only [Eff.run] at h
    split at h
    ·split at h
     ·cases h
      simp only [Eff.rd, Eff.lv]
      exact ⟨by simp, fun id hid => .inl ⟨by simpa using hid, by first | rfl | trivial⟩, fun w hw => .inl ⟨by simp at hw; rw [hw], by first | rfl | trivial⟩, by first | rfl | trivial, by simp⟩
     ·cases h
    ·cases h
   ·cases h
  ·cases h
 case store n a x =>
  simp only [opE] at h ⊢
  cases hx : ρ a with
  | ptr id off =>
   simp only [hx, Eff.run] at h
   split at h
   ·rename_i sz es hh
    rw [hh] at h
    simp only at h
    simp only [hx, Eff.rd, Eff.lv, hh]
    cases he : es[off / sz]? with
    | none => rw [he] at h; cases h
    | some e =>
     rw [he] at h
     simp only at h
     split at h
     ·rename_i hc
      cases h
      simp only []
      rw [if_pos hc]
      simp only [Eff.rd, Eff.lv]
      have hr : ∃ y ∈ [a], refOf (ρ y) = some id := ⟨a, by simp, by rw [hx]; rfl⟩
      refine ⟨fun j hj => ?_, fun j hj => .inr ?_, fun w hw => .inr ?_, by simp, fun e => nomatch e⟩
      ·simp at hj; subst hj; exact hr
      ·simp at hj; subst hj; exact ⟨a, by simp, by rw [hx]; rfl, _, _, hh⟩
      ·simp at hw; subst hw; exact ⟨a, by simp, by rw [hx]; rfl, _, _, hh⟩
     ·cases h
   ·cases h
  | _ => simp only [hx] at h; cases h
section
variable {S : Nat → Type} [Sg : Sig S] {ρ ρ' : Rho} {H H' : Heap} {fr : Fr} {b N : Nat} {t : TS S} {s g : St} {α : Type} {pr : Prog}
def objV : Val S → Option (List Nat)
 | .whole o _ => some [o]
 | .win o _ _ _ => some [o]
 | .ptr o _ _ _ => some [o]
 | .pa o _ _ _ => some [o]
 | .one _ _ _ => some []
 | .fp _ _ _ _ => some []
 | _ => none
def Tch (ρ : Rho) (os : List Nat) (id : Nat) : Prop := ∃ o ∈ os, ∃ p, ρ o p = some (some id)
theorem Tch.up {os os' : List Nat} (h : ∀ o ∈ os, o ∈ os') (hm : ∀ o p x, ρ o p = some x → ρ' o p = some x) {id : Nat} : Tch ρ os id → Tch ρ' os' id := fun ⟨o, h1, p, h2⟩ => ⟨o, h o h1, p, hm _ _ _ h2⟩
theorem cl_ref {n : Nat} {v d : D} {id : Nat} (h : Cl H n v d) (hr : refOf d = some id) : dead H id := by
 obtain ⟨z, h1, _, h3⟩ := h.frz
 cases n with
 | zero => exact h.elim
 | succ n =>
  cases d with
  | ref i off len =>
   cases hr
   simp only [frz, Eff.run] at h1
   split at h1
   ·split at h1
    ·rw [run_bindE, Option.bind_eq_some_iff] at h1
     obtain ⟨y, _, h1⟩ := h1
     cases h1
     exact h3 _ (by simp)
    ·cases h1
   ·cases h1
  | ptr i off =>
   cases hr
   simp only [frz, Eff.run] at h1
   split at h1
   ·rename_i sz es lv hh
    cases he : es[off / sz]? with
    | none => rw [he] at h1; cases h1
    | some e =>
     rw [he] at h1
     simp only at h1
     rw [run_bindE, Option.bind_eq_some_iff] at h1
     obtain ⟨y, _, h1⟩ := h1
     cases h1
     exact h3 _ (by simp)
   ·cases h1
  | _ => cases hr
theorem obj_ref {v : Val S} {d : D} {os : List Nat} {id : Nat} (ho : objV v = some os) (h : VS ρ H v d) (hr : refOf d = some id) : dead H id ∨ Tch ρ os id := by
 cases v with
 | whole o p =>
  cases ho
  rcases h with ⟨id', _, _, h1, _, rfl⟩ | ⟨_, rfl⟩
  ·cases hr; exact .inr ⟨o, by simp, p, h1⟩
  ·cases hr
 | win o p off len =>
  cases ho
  rcases h with ⟨id', _, _, h1, _, _, rfl⟩ | ⟨_, _, _, rfl⟩
  ·cases hr; exact .inr ⟨o, by simp, p, h1⟩
  ·cases hr
 | ptr o p i j =>
  cases ho
  obtain ⟨id', _, _, h1, _, _, rfl⟩ := h
  cases hr; exact .inr ⟨o, by simp, p, h1⟩
 | pa o j z len =>
  cases ho
  obtain ⟨id', _, _, h1, _, _, _, rfl⟩ := h
  cases hr; exact .inr ⟨o, by simp, [], h1⟩
 | one n c x =>
  simp only [VS, VSx] at h
  split at h
  ·obtain ⟨ds, rfl, _⟩ := h; cases hr
  ·match hq : en c x, h with
   | [a], h => exact .inl (cl_ref h.1 hr)
 | fp n c x j =>
  obtain ⟨r, h⟩ := h
  exact .inl (cl_ref h hr)
 | _ => cases ho
structure Fin' (ρ : Rho) (H : Heap) (wo ro : List Nat) (f : Fp) : Prop where
 all : f.all = false
 rd : ∀ id ∈ f.rd, dead H id ∨ Tch ρ (wo ++ ro) id
 fz : ∀ id ∈ f.fz, dead H id ∨ Tch ρ wo id
 lv : ∀ id ∈ f.lv, Tch ρ (wo ++ ro) id
 wr : ∀ id ∈ f.wr, Tch ρ wo id
theorem dead_le (h : HLe H H') {id : Nat} : dead H id → dead H' id := fun ⟨sz, es, q⟩ => ⟨sz, es, h _ _ _ q⟩
theorem Fin'.up {wo ro : List Nat} {f : Fp} (h : Fin' ρ H wo ro f) (hm : ∀ o p x, ρ o p = some x → ρ' o p = some x) (hh : HLe H H') : Fin' ρ' H' wo ro f :=
 ⟨h.all, fun id q => (h.rd id q).imp (dead_le hh) (Tch.up (fun _ q => q) hm), fun id q => (h.fz id q).imp (dead_le hh) (Tch.up (fun _ q => q) hm), fun id q => (h.lv id q).up (fun _ q => q) hm, fun id q => (h.wr id q).up (fun _ q => q) hm⟩
def disj (xs ys : List Nat) : Bool := xs.all fun x => !ys.contains x
theorem meets_no {xs ys : List Nat} (h : ∀ id ∈ xs, id ∉ ys) : meets xs ys = false := by
 unfold meets
 rw [List.any_eq_false]
 intro x hx
 simpa using h x hx
theorem clash_no (h : RelR fr b N ρ t g) {wo ro wo' ro' : List Nat} {f f' : Fp} (h1 : Fin' ρ g.hp wo ro f) (h2 : Fin' ρ g.hp wo' ro' f') (hd : (disj wo (wo' ++ ro') && disj wo' (wo ++ ro)) = true) : clash f f' = false := by
 simp only [Bool.and_eq_true] at hd
 have ne : ∀ {xs ys : List Nat}, disj xs ys = true → ∀ id, Tch ρ xs id → Tch ρ ys id → False := fun hd id ⟨o, q1, p, q2⟩ ⟨o', q3, p', q4⟩ => by
  obtain ⟨rfl, _⟩ := h.inj _ _ _ _ _ q2 q4
  have := List.all_eq_true.mp hd o q1
  simp at this
  exact this q3
 have live : ∀ {os : List Nat} {id}, Tch ρ os id → dead g.hp id → False := fun ⟨o, q1, p, q2⟩ ⟨sz, es, q3⟩ => by
  obtain ⟨_, _, _, q4⟩ := h.liv _ _ _ q2
  rw [q3] at q4
  cases q4
 have left : ∀ {xs ys : List Nat} {id}, Tch ρ xs id → Tch ρ (xs ++ ys) id := fun q => q.up (fun o ho => List.mem_append_left _ ho) (fun _ _ _ q => q)
 have A : ∀ id, Tch ρ wo id → (dead g.hp id ∨ Tch ρ (wo' ++ ro') id) → False := fun id q1 q2 => q2.elim (live q1) (ne hd.1 id q1)
 have B : ∀ id, Tch ρ wo' id → (dead g.hp id ∨ Tch ρ (wo ++ ro) id) → False := fun id q1 q2 => q2.elim (live q1) (ne hd.2 id q1)
 have e1 : meets f.wr f'.rd = false := meets_no fun id q1 q2 => A id (h1.wr id q1) (h2.rd id q2)
 have e2 : meets f.wr f'.lv = false := meets_no fun id q1 q2 => A id (h1.wr id q1) (.inr (h2.lv id q2))
 have e3 : meets f.wr f'.wr = false := meets_no fun id q1 q2 => A id (h1.wr id q1) (.inr (left (h2.wr id q2)))
 have e4 : meets f.wr f'.fz = false := meets_no fun id q1 q2 => A id (h1.wr id q1) ((h2.fz id q2).imp (fun q => q) left)
 have e5 : meets f'.wr f.rd = false := meets_no fun id q1 q2 => B id (h2.wr id q1) (h1.rd id q2)
 have e6 : meets f'.wr f.lv = false := meets_no fun id q1 q2 => B id (h2.wr id q1) (.inr (h1.lv id q2))
 have e7 : meets f'.wr f.fz = false := meets_no fun id q1 q2 => B id (h2.wr id q1) ((h1.fz id q2).imp (fun q => q) left)
 have e8 : meets f.fz f'.lv = false := meets_no fun id q1 q2 => (h1.fz id q1).elim (live (h2.lv id q2)) (fun q => A id q (.inr (h2.lv id q2)))
 have e9 : meets f'.fz f.lv = false := meets_no fun id q1 q2 => (h2.fz id q1).elim (live (h1.lv id q2)) (fun q => B id q (.inr (h1.lv id q2)))
 simp [clash, h1.all, h2.all, e1, e2, e3, e4, e5, e6, e7, e8, e9]
end
end Go.Pi
namespace Go.Pi
set_option linter.unusedVariables false
structure AOD where
 dst : Option Nat
 op : POp
 gu : Option (Nat × Bool)
 aft : List Nat
 res : Nat
 cd : Code
def AOD.er (o : AOD) : PO := ⟨o.dst, o.op, o.gu, o.aft, o.res⟩
section
variable {S : Nat → Type} [Sg : Sig S] {ρ ρ' : Rho} {H H' : Heap} {fr : Fr} {b N : Nat} {t : TS S} {s g : St} {α : Type} {pr : Prog}
def op1X (dst : Option Nat) (res : Nat) (cd : Code) (op : POp) (t : TS S) (K : TS S → Option α) : Option α := match pureK t op with
 | some v => K (t.putD dst v)
 | none => match op with
  | .pick c x y => opPick dst c x y t K
  | .bin o x y => opBin dst o x y t K
  | .alloc z => opAlloc dst res z t K
  | .buildSlice sz n z ps => (match isOwn cd with
   | true => none
   | false => opBuildS dst res cd sz n z ps t K)
  | .load ag n x => (match evK t x with
   | some (.pa _ _ _ _) => opLoadA dst ag n x t K
   | _ => opLoad dst ag n x t K)
  | .store n a x => (match dst with
   | none => (match evK t a, isOwn cd with
    | some (.pa _ _ _ _), _ => opStoreA n a x t K
    | _, true => none
    | _, false => opStore n a x t K)
   | some _ => none)
  | .indexAddr sz x i => opIndex dst sz x i t K
  | .indexAddrA sz len x i => opIdxA dst sz len x i t K
  | .index ag sz len x i => opIdxV dst ag sz len x i t K
  | .indexS x i => opIndexS dst x i t K
  | .len x => opLen dst x t K
  | .sliceS x lo hi => opSliceS dst x lo hi t K
  | .bits x => opBits dst x t K
  | _ => none
theorem pureK_new {op : POp} {v : Val S} (h : pureK t op = some v) : newOp op = false := by
 cases op <;> first | rfl | (simp [pureK] at h)
theorem op1X_ok (h : RelR fr b N ρ t g) {dst : Option Nat} (hd : dstK N dst = true) {res : Nat} {cd : Code} {op : POp} {K : TS S → Option α} {r : α} (hr : op1X dst res cd op t K = some r) : GotX ρ t.nx fr b N g op res dst (fun t' => K t' = some r) := by
 unfold op1X at hr
 split at hr
 ·rename_i v hv
  intro call
  obtain ⟨d, k1, k2⟩ := pureK_ok h hv call (b + res)
  exact ⟨⟨d, [], []⟩, ρ, _, k1, h.putD hd k2, ⟨fun _ _ _ h => h, fun _ _ _ h => h, fun e => by rw [pureK_new hv] at e; cases e⟩, hr⟩
 ·split at hr
  ·exact opPick_ok h hd hr
  ·exact opBin_ok h hd hr
  ·exact opAlloc_ok h hd hr
  ·split at hr
   ·cases hr
   ·exact opBuildS_ok h hd hr
  ·split at hr
   ·exact opLoadA_ok h hd hr
   ·exact opLoad_ok h hd hr
  ·split at hr
   ·split at hr
    ·exact opStoreA_ok h hr
    ·cases hr
    ·exact opStore_ok h hr
   ·cases hr
  ·exact opIndex_ok h hd hr
  ·exact opIdxA_ok h hd hr
  ·exact opIdxV_ok h hd hr
  ·exact opIndexS_ok h hd hr
  ·exact opLen_ok h hd hr
  ·exact opSliceS_ok h hd hr
  ·exact opBits_ok h hd hr
  ·cases hr
inductive Tg where
 | q
 | s (wo ro : List Nat)
def objsX (t : TS S) : List PX → Option (List Nat)
 | [] => some []
 | x :: xs => match evK t x with
  | some v => (match objV v, objsX t xs with
   | some os, some os' => some (os ++ os')
   | _, _ => none)
  | none => none
theorem objsX_ok (h : RelR fr b N ρ t g) : ∀ {xs : List PX} {os : List Nat}, objsX t xs = some os → ∀ x ∈ xs, ∀ id, refOf (x.ev g.ts) = some id → dead g.hp id ∨ Tch ρ os id
 | [], _, _, x, hx, _, _ => nomatch hx
 | y :: xs, os, ho, x, hx, id, hr => by
  simp only [objsX] at ho
  split at ho
  ·rename_i v hv
   split at ho
   ·rename_i os1 os2 h1 h2
    cases ho
    rcases List.mem_cons.mp hx with rfl | hx
    ·exact (obj_ref h1 (h.ev hv) hr).imp (fun q => q) (Tch.up (fun o q => by simp [q]) (fun _ _ _ q => q))
    ·exact (objsX_ok h h2 x hx id hr).imp (fun q => q) (Tch.up (fun o q => by simp [q]) (fun _ _ _ q => q))
   ·cases ho
  ·cases ho
def tagD (t : TS S) (op : POp) : Option Tg := match Nat.beq (clsO (fun _ => true) op) 0 with
 | true => some .q
 | false => (match spO op with
  | some (k, xs) => (match objsX t xs with
   | some os => (match k with
    | 0 => some (.s [] os)
    | 1 => some (.s [t.nx] [])
    | _ => some (.s os []))
   | none => none)
  | none => none)
def noFpK (f : Fp) : Prop := f = ⟨[], [], [], [], false⟩
def TgR (ρ : Rho) (H : Heap) : Tg → Fp → Prop
 | .q, f => noFpK f
 | .s wo ro, f => Fin' ρ H wo ro f
theorem stepO_fpK {c : CallF} {dst : Option Nat} {op : POp} {gu : Option (Nat × Bool)} {aft : List Nat} {res : Nat} {out : Out} (hg : guardOk g.ts gu = true) (hw : wantedP g.ts gu = true) (h : (opE c (PX.ev g.ts) (b + res) op).run g.hp = some out) :
  stepO c b ⟨dst, op, gu, aft, res⟩ g = some ⟨putT g.ts dst out.d, out.on g.hp⟩ ∧ stepFp c b ⟨dst, op, gu, aft, res⟩ g = ⟨(opE c (PX.ev g.ts) (b + res) op).rd g.hp, (opE c (PX.ev g.ts) (b + res) op).lv g.hp, out.ws.map (·.1), out.fz, false⟩ := by
 unfold stepO stepFp
 simp only [hg, hw, if_true]
 split
 ·simp [opE, Eff.run] at h
 ·simp only [h, Option.map_some, and_self]
theorem stepX_ok (h : RelR fr b N ρ t g) {dst : Option Nat} (hd : dstK N dst = true) {res : Nat} {cd : Code} {op : POp} {gu : Option (Nat × Bool)} (hg : guardOk g.ts gu = true) (hw : wantedP g.ts gu = true) {aft : List Nat} {tg : Tg} (ht : tagD t op = some tg) {K : TS S → Option α} {r : α} (hr : op1X dst res cd op t K = some r) :
  ∃ g1 t' ρ', stepO (runN pr 0) b ⟨dst, op, gu, aft, res⟩ g = some g1 ∧ K t' = some r ∧ RelR fr b N ρ' t' g1 ∧ (∀ o p x, ρ o p = some x → ρ' o p = some x) ∧ HLe g.hp g1.hp ∧ TgR ρ' g1.hp tg (stepFp (runN pr 0) b ⟨dst, op, gu, aft, res⟩ g) := by
 obtain ⟨out, ρ', t', k1, k2, ⟨m1, m2, m3⟩, k3⟩ := op1X_ok h hd hr (runN pr 0)
 obtain ⟨e1, e2⟩ := stepO_fpK (dst := dst) (aft := aft) hg hw k1
 refine ⟨_, t', ρ', e1, k3, k2, m1, m2, ?_⟩
 rw [e2]
 unfold tagD at ht
 split at ht
 ·rename_i hk
  cases ht
  obtain ⟨a1, a2, a3, a4⟩ := idle_run (opE_idle (nq := fun _ => true) (Nat.eq_of_beq_eq_true hk)) k1
  show noFpK _
  unfold noFpK
  rw [a1, a2, a3, a4]
  rfl
 ·split at ht
  ·rename_i k xs hsp
   split at ht
   ·rename_i os hos
    obtain ⟨a1, a2, a3, a4, a5⟩ := opE_touch hsp k1
    have hobj := objsX_ok h hos
    have notdead : ∀ {id}, (∃ sz es, hat g.hp id = .row sz es true) → dead g.hp id → False := fun ⟨sz, es, q⟩ ⟨sz', es', q'⟩ => by rw [q] at q'; cases q'
    have new : k = 1 → newOp op = true := fun e => by subst e; cases op <;> cases hsp <;> rfl
    have row : ∀ {id}, (∃ x ∈ xs, refOf (PX.ev g.ts x) = some id ∧ ∃ sz es, hat g.hp id = .row sz es true) → Tch ρ' os id := fun ⟨x, hx, hr, hrow⟩ =>
     ((hobj x hx _ hr).resolve_left (notdead hrow)).up (fun _ q => q) m1
    have rdd : ∀ {id}, (∃ x ∈ xs, refOf (PX.ev g.ts x) = some id) → dead (out.on g.hp) id ∨ Tch ρ' os id := fun ⟨x, hx, hr⟩ => (hobj x hx _ hr).imp (dead_le m2) (Tch.up (fun _ q => q) m1)
    have nof : ∀ {id}, id ∈ out.fz → False := fun q => by rw [a4] at q; cases q
    split at ht
    ·cases ht
     refine ⟨rfl, fun id hid => (rdd (a1 id hid)).imp (fun q => q) (Tch.up (fun o q => by simpa using q) (fun _ _ _ q => q)), fun id hid => (nof hid).elim, fun id hid => ?_, fun id hid => ?_⟩
     ·rcases a2 id hid with ⟨_, e⟩ | q
      ·cases e
      ·exact (row q).up (fun o q => by simpa using q) (fun _ _ _ q => q)
     ·have hid : id ∈ out.ws.map (·.1) := hid
      rw [a5 rfl] at hid
      cases hid
    ·cases ht
     have hx : xs = [] := by cases op <;> cases hsp <;> rfl
     have mine : Tch ρ' [t.nx] (b + res) := ⟨t.nx, by simp, [], m3 (new rfl)⟩
     have none : ∀ {p : PX → Prop}, (∃ x ∈ xs, p x) → False := fun ⟨x, q, _⟩ => by rw [hx] at q; cases q
     refine ⟨rfl, fun id hid => (none (a1 id hid)).elim, fun id hid => (nof hid).elim, fun id hid => ?_, fun id hid => ?_⟩
     ·rcases a2 id hid with ⟨rfl, _⟩ | q
      ·exact mine
      ·exact (none q).elim
     ·obtain ⟨w, hw, rfl⟩ := List.mem_map.mp hid
      rcases a3 w hw with ⟨e, _⟩ | q
      ·rw [e]; exact mine
      ·exact (none q).elim
    ·cases ht
     have nk : k ≠ 1 := by assumption
     refine ⟨rfl, fun id hid => (rdd (a1 id hid)).imp (fun q => q) (Tch.up (fun o q => by simpa using q) (fun _ _ _ q => q)), fun id hid => (nof hid).elim, fun id hid => ?_, fun id hid => ?_⟩
     ·rcases a2 id hid with ⟨_, e⟩ | q
      ·exact absurd e nk
      ·exact (row q).up (fun o q => by simpa using q) (fun _ _ _ q => q)
     ·obtain ⟨w, hw, rfl⟩ := List.mem_map.mp hid
      rcases a3 w hw with ⟨_, e⟩ | q
      ·exact absurd e nk
      ·exact row q
   ·cases ht
  ·cases ht
def lentD (Γ : List (Entry S pr)) (t : TS S) (op : POp) : Option Nat := match op with
 | .call f ((m, x) :: _) => (match Nat.beq m 2, findE Γ f, evK t x with
  | true, some (.lent e), some (.ptr o _ _ _) => (match e.rs.all valR with
   | true => some o
   | false => none)
  | _, _, _ => none)
 | _ => none
theorem lentX_ok (h : RelR fr b N ρ t g) {Γ : List (Entry S pr)} {dst : Option Nat} {res : Nat} {cd : Code} {op : POp} {gu : Option (Nat × Bool)} (hg : guardOk g.ts gu = true) (hw : wantedP g.ts gu = true) {aft : List Nat} {ob : Nat} (hl : lentD Γ t op = some ob) {K : TS S → Option α} {r : α} (hr : stepT Γ N dst res cd op t K = some r) :
  ∃ n g1 t' g2 ρ', stepO (runN pr n) b ⟨dst, op, gu, aft, res⟩ g = some g1 ∧ K t' = some r ∧ GhK g1 g2 ∧ RelR fr b N ρ' t' g2 ∧ (∀ o p x, ρ o p = some x → ρ' o p = some x) ∧ HLe g.hp g2.hp ∧ Fin' ρ' g2.hp [ob] [] (stepFp (runN pr n) b ⟨dst, op, gu, aft, res⟩ g) := by
 unfold lentD at hl
 split at hl
 ·rename_i f m x as
  split at hl
  ·rename_i e o p i j hm he hx
   split at hl
   ·rename_i hv
    cases hl
    obtain rfl := Nat.eq_of_beq_eq_true hm
    unfold stepT at hr
    split at hr
    ·cases hr
    ·rename_i hd
     have hr : callT Γ f dst res ((2, x) :: as) t K = some r := hr
     unfold callT at hr
     rw [he] at hr
     have hr : callLK e dst res ((2, x) :: as) t K = some r := hr
     unfold callLK at hr
     simp only [hx] at hr
     split at hr
     ·rename_i o' p' i' j' q hm' hx' hq
      cases hx'
      split at hr
      ·rename_i pn vs hij ho
       simp only [Bool.and_eq_true] at hij
       obtain rfl := Nat.eq_of_beq_eq_true hij.1
       obtain rfl := Nat.eq_of_beq_eq_true hij.2
       split at hr
       ·rename_i a ha
        simp only [Option.bind_eq_some_iff] at hr
        obtain ⟨v, hvv, hr⟩ := hr
        split at hr
        ·rename_i w hww
         obtain ⟨n, out, g', ρ', k1, k2, k3, k4, k5, k6, id, k7, k8, k9, k10, k11⟩ := lent_okD h e.ok hx ho ha hq hvv hww hv
         rw [show e.f = f from findE_ok he] at k1 k8 k9
         obtain ⟨e1, e2⟩ := stepO_fpK (op := .call f ((2, x) :: as)) (dst := dst) (aft := aft) (res := res) hg hw k1
         refine ⟨n, _, _, _, ρ', e1, hr, put_gh k2, k3.putD hd k4, k5, k6, ?_⟩
         rw [e2]
         have ht : Tch ρ' [_] id := ⟨_, List.mem_singleton.mpr rfl, [], k5 _ _ _ k7⟩
         refine ⟨rfl, fun y hy => (k8 y hy).imp (dead_le k6) (fun e => by subst e; exact ht.up (fun o q => by simpa using q) (fun _ _ _ q => q)), fun y hy => .inl (dead_le k6 (k11 y hy)), fun y hy => ?_, fun y hy => ?_⟩
         ·have hy : y ∈ (callE (runN pr n) (b + res) f (((2, x) :: as).map fun p => (p.1, p.2.ev g.ts))).lv g.hp := hy
          rw [k9] at hy
          simp only [List.mem_singleton] at hy
          subst hy; exact ht.up (fun o q => by simpa using q) (fun _ _ _ q => q)
         ·have hy : y ∈ out.ws.map (·.1) := hy
          rw [k10] at hy
          simp only [List.mem_singleton] at hy
          subst hy; exact ht
        ·cases hr
       ·cases hr
      ·cases hr
     ·cases hr
   ·cases hl
  ·cases hl
 ·cases hl
def mentO1 : Val S → List Nat
 | .whole o _ => [o]
 | .win o _ _ _ => [o]
 | .ptr o _ _ _ => [o]
 | .pa o _ _ _ => [o]
 | _ => []
def mentO : Val S → List Nat
 | .agg vs => vs.flatMap mentO1
 | v => mentO1 v
def argR (t : TS S) (args : List (Nat × PX)) : List Nat := args.flatMap fun p => match evK t p.2 with
 | some v => mentO v
 | none => []
def ownOne : List RK → Bool
 | [.own _] => true
 | _ => false
def plainCK (Γ : List (Entry S pr)) : POp → Option (Ent S pr × List (Nat × PX))
 | .call f args => (match findE Γ f with
  | some (.plain e) => (match keeps (S := S) e.rs && (e.rs.all valR || ownOne e.rs) with
   | true => some (e, args)
   | false => none)
  | _ => none)
 | _ => none
def clearTo (t : TS S) (R : List Nat) : TS S := t.clear fun o _ => !R.contains o
def callPD (e : Ent S pr) (dst : Option Nat) (res : Nat) (args : List (Nat × PX)) (t : TS S) (K : TS S → Option α) : Option α := match argsA (clearTo t (argR t args)) (keeps (S := S) e.rs) e.ps args with
 | some p => (e.F p).bind fun r => match impT e.rs r res t with
  | some q => K (q.2.putD dst (retT e.rs q.1))
  | none => none
 | none => none
theorem own_new {H' : Heap} : ∀ {rs : List RK} {v : Flds S (rcs rs)} {xs : List D} {res : Nat} {t : TS S} {q : List (Val S) × TS S}, ownOne rs = true → ResX rs v xs → impT rs v res t = some q → All2 (VSx ρ' H') q.1 (impL (b + res) xs).1 → ∀ id ∈ (impL (b + res) xs).2.map (·.1), Tch ρ' [t.nx] id
 | [.own c], v, [], res, t, q, _, hx, _, _ => hx.elim
 | [.own c], v, x :: xs, res, t, q, _, hx, hi, hk => fun id hid => by
  have hxs : xs = [] := hx.2
  subst hxs
  rcases hx.1 with ⟨rfl, _⟩ | ⟨es, rfl, _⟩
  ·simp [impL, imp1] at hid
  ·simp [impL, imp1] at hid
   subst hid
   simp only [impT] at hi
   split at hi
   ·cases hi
    have h1 : VSx ρ' H' (.whole t.nx []) (.ref (b + res) 0 es.length) := hk.1
    have h1 : VR1 (S := S) ρ' H' (.whole t.nx []) (.ref (b + res) 0 es.length) := h1
    rcases h1 with ⟨id, _, _, e1, _, e2⟩ | ⟨_, e2⟩
    ·have e3 := (D.ref.inj e2).1
     exact ⟨t.nx, by simp, [], by rw [e3]; exact e1⟩
    ·cases e2
   ·cases hi
 | [], _, _, _, _, _, h, _, _, _ => nomatch h
 | .val _ :: _, _, _, _, _, _, h, _, _, _ => nomatch h
 | .cl _ :: _, _, _, _, _, _, h, _, _, _ => nomatch h
 | .fp _ :: _, _, _, _, _, _, h, _, _, _ => nomatch h
 | .own _ :: _ :: _, _, _, _, _, _, h, _, _, _ => nomatch h
theorem callPD_ok (h : RelR fr b N ρ t g) {Γ : List (Entry S pr)} {op : POp} {e : Ent S pr} {args : List (Nat × PX)} (hp : plainCK Γ op = some (e, args)) {dst : Option Nat} (hd : dstK N dst = true) {res : Nat} {gu : Option (Nat × Bool)} (hg : guardOk g.ts gu = true) (hw : wantedP g.ts gu = true) {aft : List Nat} {K : TS S → Option α} {r : α} (hr : callPD e dst res args t K = some r) :
  ∃ n g1 t' g2 ρ', stepO (runN pr n) b ⟨dst, op, gu, aft, res⟩ g = some g1 ∧ K t' = some r ∧ GhK g1 g2 ∧ RelR fr b N ρ' t' g2 ∧ (∀ o p x, ρ o p = some x → ρ' o p = some x) ∧ HLe g.hp g2.hp ∧ Fin' ρ' g2.hp [t.nx] (argR t args) (stepFp (runN pr n) b ⟨dst, op, gu, aft, res⟩ g) := by
 unfold plainCK at hp
 split at hp
 ·rename_i f args'
  split at hp
  ·rename_i e' he
   split at hp
   ·rename_i hk
    cases hp
    simp only [Bool.and_eq_true, Bool.or_eq_true] at hk
    obtain ⟨hk1, hk2⟩ := hk
    unfold callPD at hr
    split at hr
    ·rename_i p hpa
     simp only [Option.bind_eq_some_iff] at hr
     obtain ⟨v, hv, hr⟩ := hr
     split at hr
     ·rename_i q hq
      have hc := h.clear (P := fun o _ => !(argR t args).contains o) (fun _ _ q => q)
      obtain ⟨ds, ids, p1, p2, p3⟩ := argsA_ok hc (j := 0) hpa
      obtain ⟨n, d, H', r1, r2, xs, hh, rd, e1, e2, e3, e4⟩ := e.ok p v hv ds p2
      obtain ⟨g', ρ', k1, k2, k3, k4, k5⟩ := imp_ok (k := res) e4 (GhK.refl g) h hq
      have hsc := keeps_scal hk1 e4
      have hl : (impL (b + res) xs).1.length = e.rs.length := by
       have : ∀ {l : List D} {r : Nat}, (impL r l).1.length = l.length := by
        intro l
        induction l with
        | nil => intro r; rfl
        | cons d l ih => intro r; simp [impL, ih]
       rw [this, e4.len]
      have h1 : (hh.all fun x => !rd.contains x) = true := e3
      have h2 : (hh.all fun x => !([] : List Nat).contains x) = true := by simp
      have hrun : (callE (runN pr n) (b + res) f (args.map fun p => (p.1, p.2.ev g.ts))).run g.hp = some ⟨recomp d (impL (b + res) xs).1, (impL (b + res) xs).2, []⟩ := by
       rw [← show e.f = f from findE_ok he]
       simp only [callE, run_bindE, p1, Option.bind_some, List.map_nil, nodup, apart, List.all_nil, Bool.and_self, if_true, r1, finish, e1, expB, boxKs]
       simp only [e2, List.isEmpty_nil, Bool.true_and, List.nil_append]
       simp only [h1, h2, Bool.and_self, if_true]
       rw [newL_run k5]
       simp only [hsc, if_true]
       rfl
      obtain ⟨q1, q2⟩ := stepO_fpK (op := .call f args) (dst := dst) (aft := aft) (res := res) hg hw hrun
      refine ⟨n, _, _, _, ρ', q1, hr, put_gh (o := ⟨recomp d (impL (b + res) xs).1, (impL (b + res) xs).2, []⟩) k1, k2.putD hd (ret_ok r2 hl k4), k3.map, k3.hle, ?_⟩
      rw [q2]
      have hz : ∀ a ∈ args.map (fun p => (p.1, p.2.ev g.ts)), a.1 = 0 := fun a ha => by
       obtain ⟨y, hy, rfl⟩ := List.mem_map.mp ha
       exact argsA_zero hpa y hy
      have hnew : ∀ id ∈ (impL (b + res) xs).2.map (·.1), Tch ρ' [t.nx] id := by
       rcases hk2 with hv' | ho
       ·rw [val_ws hv' e4]
        intro id hid
        cases hid
       ·exact own_new ho e4 hq k4
      have hcont : (callE (runN pr n) (b + res) f (args.map fun p => (p.1, p.2.ev g.ts))).rd g.hp = (prep (args.map fun p => (p.1, p.2.ev g.ts)) 0).rd g.hp ∧ (callE (runN pr n) (b + res) f (args.map fun p => (p.1, p.2.ev g.ts))).lv g.hp = (prep (args.map fun p => (p.1, p.2.ev g.ts)) 0).lv g.hp ++ (impL (b + res) xs).2.map (·.1) := by
       rw [← show e.f = f from findE_ok he]
       unfold callE
       rw [(bind_rd p1).1, (bind_rd p1).2]
       simp only [List.map_nil, nodup, apart, List.all_nil, Bool.and_self, if_true, r1, finish, e1, expB, boxKs, Option.bind_some]
       simp only [e2, List.isEmpty_nil, Bool.true_and, List.nil_append]
       simp only [h1, h2, Bool.and_self, if_true]
       rw [newL_rd.1, newL_rd.2, List.append_nil]
       exact ⟨rfl, rfl⟩
      obtain ⟨m1, m2⟩ := prep_rd hz p1
      refine ⟨rfl, fun y hy => ?_, (fun y hy => nomatch hy), fun y hy => ?_, fun y hy => hnew y hy⟩
      ·have hy : y ∈ (callE (runN pr n) (b + res) f (args.map fun p => (p.1, p.2.ev g.ts))).rd g.hp := hy
       rw [hcont.1] at hy
       rcases p3 y (m1 y hy) with q | ⟨_, o, pp, q⟩
       ·exact .inl (dead_le k3.hle q)
       ·obtain ⟨z1, z2⟩ := cutR_some q
        exact .inr ⟨o, by simp at z1; simp [z1], pp, k3.map _ _ _ z2⟩
      ·have hy : y ∈ (callE (runN pr n) (b + res) f (args.map fun p => (p.1, p.2.ev g.ts))).lv g.hp := hy
       rw [hcont.2, m2, List.nil_append] at hy
       exact (hnew y hy).up (fun o q => by simp at q; simp [q]) (fun _ _ _ q => q)
     ·cases hr
    ·cases hr
   ·cases hp
  ·cases hp
 ·cases hp
abbrev SnK := List (Nat × Option (List Nat × List Nat))
def okSeenK (aft : List Nat) (wo ro : List Nat) (seen : SnK) : Bool := seen.all fun p => aft.contains p.1 || (match p.2 with
 | some (wo', ro') => disj wo' (wo ++ ro) && disj wo (wo' ++ ro')
 | none => false)
def allAft (aft : List Nat) (seen : SnK) : Bool := seen.all fun p => aft.contains p.1
def fgK (seen : SnK) : SnK := seen.map fun p => (p.1, none)
def dOne (Γ : List (Entry S pr)) (N : Nat) (o : AOD) (i : Nat) (seen : SnK) (t : TS S) (K : SnK → TS S → Option α) : Option α := match lentD Γ t o.op with
 | some ob => (match okSeenK o.aft [ob] [] seen with
  | true => stepT Γ N o.dst o.res o.cd o.op t fun t => K ((i, some ([ob], [])) :: seen) t
  | false => none)
 | none => (match dstK N o.dst with
  | false => none
  | true => (match plainCK Γ o.op with
   | some (e, args) => (match okSeenK o.aft [t.nx] (argR t args) seen with
    | true => callPD e o.dst o.res args t fun t' => K ((i, some ([t.nx], argR t args)) :: seen) t'
    | false => none)
   | none => (match tagD t o.op with
    | some .q => op1X o.dst o.res o.cd o.op t fun t => K seen t
    | some (.s wo ro) => (match okSeenK o.aft wo ro seen with
     | true => op1X o.dst o.res o.cd o.op t fun t => K ((i, some (wo, ro)) :: seen) t
     | false => none)
    | none => (match allAft o.aft seen with
     | true => stepT Γ N o.dst o.res o.cd o.op t fun t => K ((i, none) :: fgK seen) t
     | false => none))))
def dG (Γ : List (Entry S pr)) (N : Nat) (o : AOD) (i : Nat) (seen : SnK) (t : TS S) (K : SnK → TS S → Option α) : Option α := match o.gu with
 | none => dOne Γ N o i seen t K
 | some (gt, gb) => (match look t.sl gt, dstK N o.dst && Nat.blt gt N with
  | some .skip, true => K seen (t.putD o.dst .skip)
  | some (.one _ .bool v), true => cond v (match gb with
    | true => dOne Γ N o i seen (t.put gt (boolV true)) K
    | false => K seen ((t.put gt (boolV true)).putD o.dst .skip))
   (match gb with
    | true => K seen ((t.put gt (boolV false)).putD o.dst .skip)
    | false => dOne Γ N o i seen (t.put gt (boolV false)) K)
  | _, _ => none)
def opsDT (Γ : List (Entry S pr)) (N : Nat) : List AOD → Nat → SnK → TS S → (TS S → Option α) → Option α
 | [], _, _, t, K => K t
 | o :: os, i, seen, t, K => dG Γ N o i seen t fun seen t => opsDT Γ N os (i + 1) seen t K
def SnR (ρ : Rho) (H : Heap) (sn : List (Nat × Fp)) (seen : SnK) : Prop := ∀ p ∈ sn, noFpK p.2 ∨ ∃ tg, (p.1, tg) ∈ seen ∧ match tg with
 | some (wo, ro) => Fin' ρ H wo ro p.2
 | none => True
theorem SnR.up {sn : List (Nat × Fp)} {seen : SnK} (h : SnR ρ H sn seen) (hm : ∀ o p x, ρ o p = some x → ρ' o p = some x) (hh : HLe H H') : SnR ρ' H' sn seen := fun p hp => by
 rcases h p hp with q | ⟨tg, q1, q2⟩
 ·exact .inl q
 ·refine .inr ⟨tg, q1, ?_⟩
  cases tg with
  | none => trivial
  | some x => exact Fin'.up q2 hm hh
theorem clash_nlK {f g : Fp} (h : noFpK f) : clash f g = false := by
 rw [h]
 have : ∀ xs : List Nat, meets xs [] = false := fun xs => by induction xs <;> simp_all [meets]
 simp [clash, Fp.idle, this, show ∀ xs : List Nat, meets [] xs = false from fun _ => rfl]
theorem clash_nrK {f g : Fp} (h : noFpK g) : clash f g = false := by
 rw [h]
 have : ∀ xs : List Nat, meets xs [] = false := fun xs => by induction xs <;> simp_all [meets]
 simp [clash, Fp.idle, this, show ∀ xs : List Nat, meets [] xs = false from fun _ => rfl]
theorem seen_ok (h : RelR fr b N ρ t g) {sn : List (Nat × Fp)} {seen : SnK} (hs : SnR ρ g.hp sn seen) {aft : List Nat} {wo ro : List Nat} {f : Fp} (hf : Fin' ρ g.hp wo ro f) (hk : okSeenK aft wo ro seen = true) : (sn.all fun p => aft.contains p.1 || !clash p.2 f) = true := by
 rw [List.all_eq_true]
 intro p hp
 rcases hs p hp with q | ⟨tg, q1, q2⟩
 ·rw [clash_nlK q]; simp
 ·have := List.all_eq_true.mp hk _ q1
  simp only [Bool.or_eq_true] at this
  rcases this with q | q
  ·rw [q]; rfl
  ·cases tg with
   | none => cases q
   | some x => rw [clash_no h q2 hf q]; simp
theorem StepsD.ghK {os : List PO} {i : Nat} {sn : List (Nat × Fp)} {Q : St → Prop} (h : GhK s g) (k : StepsD pr b os i sn g Q) : StepsD pr b os i sn s (fun s' => ∃ g', GhK s' g' ∧ Q g') := by
 obtain ⟨n, g', k1, k2⟩ := k
 obtain ⟨s', k3, k4⟩ := seqD_gh (runN_gh pr n) h k1
 exact ⟨n, s', k3, g', k4, k2⟩
theorem StepsD.consK {o : PO} {os : List PO} {i m : Nat} {sn : List (Nat × Fp)} {s1 : St} {Q : St → Prop} (h : stepO (runN pr m) b o s = some s1) (hf : (sn.all fun p => o.after.contains p.1 || !clash p.2 (stepFp (runN pr m) b o s)) = true)
  (k : StepsD pr b os (i + 1) ((i, stepFp (runN pr m) b o s) :: sn) s1 Q) : StepsD pr b (o :: os) i sn s Q := by
 obtain ⟨j, s', h3, h4⟩ := k
 obtain ⟨e1, e2⟩ := stepO_mono (runN_mono pr (Nat.le_max_left m j)) h
 refine ⟨max m j, s', ?_, h4⟩
 simp only [seqD, e1, e2, Option.bind_some, hf, if_true]
 exact seqD_mono (runN_mono pr (Nat.le_max_right m j)) h3
def Did (pr : Prog) (fr : Fr) (b N : Nat) (o : AOD) (i : Nat) (sn : List (Nat × Fp)) (g : St) (K : SnK → TS S → Option α) (r : α) : Prop :=
 ∃ n g1 t' g2 ρ' seen', stepO (runN pr n) b o.er g = some g1 ∧ (sn.all fun p => o.aft.contains p.1 || !clash p.2 (stepFp (runN pr n) b o.er g)) = true ∧ K seen' t' = some r ∧ GhK g1 g2 ∧ RelR fr b N ρ' t' g2 ∧ SnR ρ' g2.hp ((i, stepFp (runN pr n) b o.er g) :: sn) seen'
theorem dOne_ok (h : RelR fr b N ρ t g) {Γ : List (Entry S pr)} {o : AOD} (hg : guardOk g.ts o.gu = true) (hw : wantedP g.ts o.gu = true) {i : Nat} {seen : SnK} {sn : List (Nat × Fp)} (hs : SnR ρ g.hp sn seen) {K : SnK → TS S → Option α} {r : α} (hr : dOne Γ N o i seen t K = some r) : Did pr fr b N o i sn g K r := by
 unfold dOne at hr
 split at hr
 ·rename_i ob hob
  split at hr
  ·rename_i hk
   obtain ⟨n, g1, t', g2, ρ', k1, k2, k3, k4, k5, k6, k7⟩ := lentX_ok (aft := o.aft) h hg hw hob hr
   have hs' := hs.up k5 k6
   refine ⟨n, g1, t', g2, ρ', _, k1, seen_ok k4 hs' k7 hk, k2, k3, k4, fun p hp => ?_⟩
   rcases List.mem_cons.mp hp with rfl | hp
   ·exact .inr ⟨some ([ob], []), by simp, k7⟩
   ·rcases hs' p hp with q | ⟨tg, q1, q2⟩
    ·exact .inl q
    ·exact .inr ⟨tg, by simp [q1], q2⟩
  ·cases hr
 ·split at hr
  ·cases hr
  ·rename_i hd
   split at hr
   ·rename_i e args hpl
    split at hr
    ·rename_i hk
     obtain ⟨n, g1, t', g2, ρ', k1, k2, k3, k4, k5, k6, k7⟩ := callPD_ok (aft := o.aft) h hpl hd hg hw hr
     have hs' := hs.up k5 k6
     refine ⟨n, g1, t', g2, ρ', _, k1, seen_ok k4 hs' k7 hk, k2, k3, k4, fun p hp => ?_⟩
     rcases List.mem_cons.mp hp with rfl | hp
     ·exact .inr ⟨some ([t.nx], argR t args), by simp, k7⟩
     ·rcases hs' p hp with q | ⟨tg, q1, q2⟩
      ·exact .inl q
      ·exact .inr ⟨tg, by simp [q1], q2⟩
    ·cases hr
   ·split at hr
    ·rename_i htg
     obtain ⟨g1, t', ρ', k1, k2, k3, k4, k5, k6⟩ := stepX_ok (pr := pr) (aft := o.aft) h hd hg hw htg hr
     have hs' := hs.up k4 k5
     refine ⟨0, g1, t', g1, ρ', _, k1, ?_, k2, GhK.refl _, k3, fun p hp => ?_⟩
     ·rw [List.all_eq_true]
      intro p hp
      show (o.aft.contains p.1 || !clash p.2 (stepFp (runN pr 0) b ⟨o.dst, o.op, o.gu, o.aft, o.res⟩ g)) = true
      rw [clash_nrK k6]; simp
     ·rcases List.mem_cons.mp hp with rfl | hp
      ·exact .inl k6
      ·exact hs' p hp
    ·rename_i wo ro htg
     split at hr
     ·rename_i hk
      obtain ⟨g1, t', ρ', k1, k2, k3, k4, k5, k6⟩ := stepX_ok (pr := pr) (aft := o.aft) h hd hg hw htg hr
      have hs' := hs.up k4 k5
      refine ⟨0, g1, t', g1, ρ', _, k1, seen_ok k3 hs' k6 hk, k2, GhK.refl _, k3, fun p hp => ?_⟩
      rcases List.mem_cons.mp hp with rfl | hp
      ·exact .inr ⟨some (wo, ro), by simp, k6⟩
      ·rcases hs' p hp with q | ⟨tg, q1, q2⟩
       ·exact .inl q
       ·exact .inr ⟨tg, by simp [q1], q2⟩
     ·cases hr
    ·split at hr
     ·rename_i hk
      obtain ⟨n, g1, k1, t', k2, g2, ρ2, k3, k4⟩ := stepT_ok (aft := o.aft) h hg hw hr
      refine ⟨n, g1, t', g2, ρ2, _, k1, ?_, k2, k3, k4, fun p hp => ?_⟩
      ·rw [List.all_eq_true]
       intro p hp
       rcases hs p hp with q | ⟨tg, q1, q2⟩
       ·rw [clash_nlK q]; simp
       ·have := List.all_eq_true.mp hk _ q1
        rw [this]; rfl
      ·rcases List.mem_cons.mp hp with rfl | hp
       ·exact .inr ⟨none, by simp, trivial⟩
       ·rcases hs p hp with q | ⟨tg, q1, q2⟩
        ·exact .inl q
        ·exact .inr ⟨none, List.mem_cons_of_mem _ (List.mem_map.mpr ⟨_, q1, rfl⟩), trivial⟩
     ·cases hr
theorem dG_ok (h : RelR fr b N ρ t g) {Γ : List (Entry S pr)} {o : AOD} {i : Nat} {seen : SnK} {sn : List (Nat × Fp)} (hs : SnR ρ g.hp sn seen) {K : SnK → TS S → Option α} {r : α} (hr : dG Γ N o i seen t K = some r) : Did pr fr b N o i sn g K r := by
 unfold dG at hr
 split at hr
 ·rename_i e
  exact dOne_ok h (by rw [e]; rfl) (by rw [e]; rfl) hs hr
 ·rename_i gt gb e
  have skip : ∀ {t1 : TS S}, guardOk g.ts o.gu = true → wantedP g.ts o.gu = false → RelR fr b N ρ t1 g → dstK N o.dst = true → K seen (t1.putD o.dst .skip) = some r → Did pr fr b N o i sn g K r := by
   intro t1 hg hw h1 hd hk
   have e1 : stepO (runN pr 0) b o.er g = some ⟨putT g.ts o.dst .skip, g.hp⟩ := by
    unfold stepO
    simp only [AOD.er, hg, hw, if_true, Bool.false_eq_true, if_false]
   have e2 : noFpK (stepFp (runN pr 0) b o.er g) := by
    unfold stepFp noFpK
    simp only [AOD.er, hw, Bool.false_eq_true, if_false]
   refine ⟨0, _, _, _, ρ, seen, e1, ?_, hk, GhK.refl _, h1.putD hd (show VS ρ g.hp .skip .skip from rfl), fun p hp => ?_⟩
   ·rw [List.all_eq_true]
    intro p hp
    rw [clash_nrK e2]; simp
   ·rcases List.mem_cons.mp hp with rfl | hp
    ·exact .inl e2
    ·exact hs p hp
  split at hr
  ·rename_i hsl hd
   simp only [Bool.and_eq_true] at hd
   have ev : g.ts.getD gt .undef = .skip := h.sl _ _ hsl
   exact skip (by rw [e]; simp only [guardOk, ev]) (by rw [e]; simp only [wantedP, ev]) h hd.1 hr
  ·rename_i m v hsl hd
   simp only [Bool.and_eq_true] at hd
   have hi : gt < N := by simpa using hd.2
   have ev : g.ts.getD gt .undef = .bool v := (show Cl g.hp m (.bool v) _ from (h.sl _ _ hsl).1).sc rfl
   have hput : ∀ w : Bool, v = w → RelR fr b N ρ (t.put gt (boolV w)) g := fun w hw => by
    subst hw
    have := h.put hi (boolV_ok (S := S) (ρ := ρ) (H := g.hp) v)
    rw [put_same (by rw [h.len]; exact hi) ev] at this
    exact this
   have hok : guardOk g.ts o.gu = true := by rw [e]; simp only [guardOk, ev]
   cases v with
   | true =>
    simp only [cond_true] at hr
    cases gb with
    | true => exact dOne_ok (hput true rfl) hok (by rw [e]; simp only [wantedP, ev]; rfl) hs hr
    | false => exact skip hok (by rw [e]; simp only [wantedP, ev]; rfl) (hput true rfl) hd.1 hr
   | false =>
    simp only [cond_false] at hr
    cases gb with
    | true => exact skip hok (by rw [e]; simp only [wantedP, ev]; rfl) (hput false rfl) hd.1 hr
    | false => exact dOne_ok (hput false rfl) hok (by rw [e]; simp only [wantedP, ev]; rfl) hs hr
  ·cases hr
theorem opsDT_ok {Γ : List (Entry S pr)} : ∀ {os : List AOD} {i : Nat} {seen : SnK} {sn : List (Nat × Fp)} {t : TS S} {g : St} {ρ : Rho} {K : TS S → Option α} {r : α}, opsDT Γ N os i seen t K = some r → RelR fr b N ρ t g → SnR ρ g.hp sn seen →
  StepsD pr b (os.map AOD.er) i sn g (fun s' => ∃ t', K t' = some r ∧ Rel fr b N t' s')
 | [], i, seen, sn, t, g, ρ, K, r, hr, h, hs => ⟨0, g, rfl, t, hr, Rel.of h⟩
 | o :: os, i, seen, sn, t, g, ρ, K, r, hr, h, hs => by
  obtain ⟨n, g1, t', g2, ρ', seen', k1, k2, k3, k4, k5, k6⟩ := dG_ok h hs (show dG Γ N o i seen t (fun seen t => opsDT Γ N os (i + 1) seen t K) = some r from hr)
  refine StepsD.consK k1 k2 ?_
  obtain ⟨n', s', z1, g', z2, t2, z3, z4⟩ := StepsD.ghK k4 (opsDT_ok (os := os) k3 k5 k6)
  exact ⟨n', s', z1, t2, z3, z4.gh z2⟩
end
end Go.Pi
namespace Go.Pi
set_option linter.unusedVariables false
def Round (pr : Prog) (c : PC) (Q : Ex → St → Prop) : Ex → St → Prop
 | .normal, s => Ends pr (.loop c) s Q
 | ex, s => Q ex s
theorem Ends.round {pr : Prog} {c : PC} {s : St} {Q : Ex → St → Prop} (h : Ends pr c s (Round pr c Q)) : Ends pr (.loop c) s Q := by
 obtain ⟨n, ex, s1, h1, h2⟩ := h
 cases ex with
 | normal =>
  obtain ⟨k, ex, s2, h3, h4⟩ := h2
  have h3' : loopN (code (runN pr k) k c) k s1 = some (ex, s2) := h3
  refine ⟨max n (k + 1), ex, s2, ?_, h4⟩
  show loopN (code (runN pr (max n (k + 1))) (max n (k + 1)) c) (max n (k + 1)) s = _
  obtain ⟨j, hj⟩ : ∃ j, max n (k + 1) = j + 1 := ⟨max n (k + 1) - 1, by omega⟩
  have e1 := code_mono (runN_mono pr (Nat.le_max_left n (k + 1))) (Nat.le_max_left n (k + 1)) h1
  have hk : k ≤ max n (k + 1) := by omega
  have e2 := loopN_mono (fun s r h => code_mono (runN_mono pr hk) hk h) (show k ≤ j by omega) h3'
  rw [hj] at e1 e2 ⊢
  simp only [loopN, e1]
  exact e2
 | exit i => exact ⟨n + 1, _, s1, by
   show loopN (code (runN pr (n + 1)) (n + 1) c) (n + 1) s = _
   simp only [loopN, code_mono (runN_mono pr (Nat.le_succ n)) (Nat.le_succ n) h1], h2⟩
 | ret => exact ⟨n + 1, _, s1, by
   show loopN (code (runN pr (n + 1)) (n + 1) c) (n + 1) s = _
   simp only [loopN, code_mono (runN_mono pr (Nat.le_succ n)) (Nat.le_succ n) h1], h2⟩
inductive AC where
 | skip
 | ret
 | exit (j : Nat)
 | reg (k : Nat) (os : List AO)
 | regd (k : Nat) (os : List AOD)
 | seq (a c : AC)
 | cond (c : PX) (x y : AC)
 | block (j : Nat) (a : AC)
 | cut (xs : List (Ex × ShapeK)) (a : AC)
 | loop (h : ShapeK) (xs : List (Ex × ShapeK)) (a : AC)
def AC.er : AC → PC
 | .skip => .skip
 | .ret => .ret
 | .exit j => .exit j
 | .reg k os => .region false k (AO.er os)
 | .regd k os => .region true k (os.map AOD.er)
 | .seq a c => .seq a.er c.er
 | .cond c x y => .cond c x.er y.er
 | .block j a => .block j a.er
 | .cut _ a => a.er
 | .loop _ _ a => .loop a.er
def exB : Ex → Ex → Bool
 | .normal, .normal => true
 | .exit i, .exit j => Nat.beq i j
 | .ret, .ret => true
 | _, _ => false
theorem exB_ok {x y : Ex} (h : exB x y = true) : x = y := by
 unfold exB at h
 split at h
 ·rfl
 ·rw [Nat.eq_of_beq_eq_true h]
 ·rfl
 ·cases h
section
variable {S : Nat → Type} [Sg : Sig S] {ρ ρ' : Rho} {H H' : Heap} {fr : Fr} {b N : Nat} {t : TS S} {s g : St} {pr : Prog}
def QT (S : Nat → Type) : List (Ex × ShapeK) → Type
 | [] => Empty
 | [x] => Flds S x.2.cs
 | x :: y :: xs => Flds S x.2.cs ⊕ QT S (y :: xs)
def closeX : (xs : List (Ex × ShapeK)) → Ex → TS S → Option (QT S xs)
 | [], _, _ => none
 | [x], ex, t => (match exB x.1 ex with
  | true => closeSh x.2 t
  | false => none)
 | x :: y :: xs, ex, t => (match exB x.1 ex with
  | true => (match closeSh x.2 t with
   | some p => some (.inl p)
   | none => none)
  | false => (match closeX (y :: xs) ex t with
   | some q => some (.inr q)
   | none => none))
def openX {α : Type} : (xs : List (Ex × ShapeK)) → QT S xs → (Ex → TS S → Option α) → Option α
 | [], q, _ => nomatch q
 | [x], q, K => K x.1 (openSh x.2 q)
 | x :: y :: xs, q, K => (match q with
  | .inl p => K x.1 (openSh x.2 p)
  | .inr q => openX (y :: xs) q K)
theorem closeX_ok {α : Type} (h : RelR fr b N ρ t g) : ∀ {xs : List (Ex × ShapeK)} {ex : Ex} {q : QT S xs} {K : Ex → TS S → Option α} {r : α}, closeX xs ex t = some q → openX xs q K = some r → ∃ t' ρ', K ex t' = some r ∧ RelR fr b N ρ' t' g ∧ t'.av = []
 | [], _, q, _, _, _, _ => nomatch q
 | [x], ex, q, K, r, h1, h2 => by
  simp only [closeX] at h1
  split at h1
  ·rename_i hx
   obtain rfl := exB_ok hx
   obtain ⟨ρ', k⟩ := h.closeSh h1
   exact ⟨_, ρ', h2, k, rfl⟩
  ·cases h1
 | x :: y :: xs, ex, q, K, r, h1, h2 => by
  simp only [closeX] at h1
  split at h1
  ·rename_i hx
   obtain rfl := exB_ok hx
   split at h1
   ·rename_i p hp
    cases h1
    obtain ⟨ρ', k⟩ := h.closeSh hp
    exact ⟨_, ρ', h2, k, rfl⟩
   ·cases h1
  ·split at h1
   ·rename_i q' hq
    cases h1
    exact closeX_ok h hq h2
   ·cases h1
def run (Γ : List (Entry S pr)) (N k : Nat) : AC → {α : Type} → TS S → (Ex → TS S → Option α) → Option α
 | .skip, _, t, K => K .normal t
 | .ret, _, t, K => K .ret t
 | .exit j, _, t, K => K (.exit j) t
 | .reg n os, _, t, K => opsT Γ N os { t with av := List.range n } fun t => K .normal { t with av := [] }
 | .regd n os, _, t, K => opsDT Γ N os 0 [] { t with av := List.range n } fun t => K .normal { t with av := [] }
 | .seq a c, _, t, K => run Γ N k a t fun ex t => match ex with
  | .normal => run Γ N k c t K
  | ex => K ex t
 | .cond c x y, _, t, K => (match scE t c with
  | some (.bool v) => cond v (run Γ N k x t K) (run Γ N k y t K)
  | _ => none)
 | .block j a, _, t, K => run Γ N k a t fun ex t => match ex with
  | .exit i => (match Nat.beq i j with
   | true => K .normal t
   | false => K (.exit i) t)
  | ex => K ex t
 | .cut xs a, _, t, K => (run Γ N k a t fun ex t => closeX xs ex t).bind fun q => openX xs q K
 | .loop h xs a, _, t, K => (match closeSh h t with
  | some p => (iter k (fun p => run Γ N k a (openSh h p) fun ex t => match ex with
    | .normal => (match closeSh h t with
     | some p => some (.inl p)
     | none => none)
    | ex => (match closeX xs ex t with
     | some q => some (.inr q)
     | none => none)) p).bind fun q => openX xs q K
  | none => none)
theorem HLe_append (H L : Heap) : HLe H (H ++ L) := fun id sz es h => by
 have := hat_ltK (H := H) (id := id) (by rw [h]; intro e; cases e)
 unfold hat at h ⊢
 rw [List.getD_eq_getElem?_getD] at h ⊢
 rw [List.getElem?_append_left this]
 exact h
theorem hat_append {H L : Heap} {id : Nat} (h : id < H.length) : hat (H ++ L) id = hat H id := by
 unfold hat
 rw [List.getD_eq_getElem?_getD, List.getD_eq_getElem?_getD, List.getElem?_append_left h]
theorem RelR.free (h : RelR fr b N ρ t g) (k : Nat) : RelR fr g.hp.length N ρ { t with av := List.range k } ⟨g.ts, g.hp ++ List.replicate k .fresh⟩ := by
 have hlt : ∀ {id sz es}, hat g.hp id = .row sz es true → id < g.hp.length := fun e => hat_ltK (by rw [e]; intro q; cases q)
 have hx : Ext ρ g.hp ρ (g.hp ++ List.replicate k .fresh) := ⟨HLe_append _ _, fun _ _ _ h => h, fun _ _ _ _ es _ e => ⟨es, by rw [hat_append (hlt e)]; exact e, rfl⟩⟩
 refine ⟨h.len, fun i v hv => (h.sl i v hv).ext hx, fun o ob ho => ObjR.ext hx (fun p id hp => ?_) (h.hp _ _ ho), h.inj, fun o p id hp => ?_, h.nxt, fun id k hk => ?_, List.nodup_range, fun r hr => ?_⟩
 ·obtain ⟨_, _, _, e⟩ := h.liv _ _ _ hp
  exact hat_append (hlt e)
 ·obtain ⟨k1, sz, es, e⟩ := h.liv _ _ _ hp
  exact ⟨k1, sz, es, by rw [hat_append (hlt e)]; exact e⟩
 ·obtain ⟨h1, h2⟩ := h.frm id k hk
  exact ⟨by rw [hat_append h2]; exact h1, by simp; omega⟩
 ·have hr : r < k := by simpa using hr
  refine ⟨?_, by simp; exact hr, ?_⟩
  ·unfold hat
   rw [List.getD_eq_getElem?_getD, List.getElem?_append_right (by omega)]
   simp [hr]
  ·cases e : fr (g.hp.length + r) with
   | none => rfl
   | some x => exact absurd (h.frm _ _ e).2 (by omega)
theorem RelR.done (h : RelR fr b N ρ t g) (b' : Nat) : RelR fr b' N ρ { t with av := [] } g := ⟨h.len, h.sl, h.hp, h.inj, h.liv, h.nxt, h.frm, List.nodup_nil, fun r hr => nomatch hr⟩
def Fin {α : Type} (fr : Fr) (N : Nat) (K : Ex → TS S → Option α) (r : α) (ex : Ex) (s : St) : Prop := ∃ t', K ex t' = some r ∧ Rel fr 0 N t' s
theorem Fin.lift {α : Type} {c : PC} {K : Ex → TS S → Option α} {r : α} (hg : GhK s g) (h : Ends pr c g (Fin fr N K r)) : Ends pr c s (Fin fr N K r) :=
 (h.gh hg).mono fun ex s' ⟨g', q1, t', q2, q3⟩ => ⟨t', q2, q3.gh q1⟩
theorem run_ok {Γ : List (Entry S pr)} {k : Nat} : ∀ (c : AC) {α : Type} {t : TS S} {g : St} {ρ : Rho} {K : Ex → TS S → Option α} {r : α}, run Γ N k c t K = some r → RelR fr 0 N ρ t g → Ends pr c.er g (Fin fr N K r)
 | .skip, _, t, g, ρ, K, r, hr, h => Ends.skip ⟨t, hr, Rel.of h⟩
 | .ret, _, t, g, ρ, K, r, hr, h => Ends.ret ⟨t, hr, Rel.of h⟩
 | .exit j, _, t, g, ρ, K, r, hr, h => Ends.exit ⟨t, hr, Rel.of h⟩
 | .reg n os, _, t, g, ρ, K, r, hr, h => by
  refine Ends.region ?_
  refine Steps.mono (opsT_ok hr (h.free n)) ?_
  rintro s' ⟨t', k1, g', ρ', k2, k3⟩
  exact ⟨_, k1, g', ρ', k2, k3.done 0⟩
 | .regd n os, _, t, g, ρ, K, r, hr, h => by
  refine Ends.regionD ?_
  obtain ⟨m, s', k0, t', k1, g', ρ', k2, k3⟩ := opsDT_ok (sn := []) hr (h.free n) (fun p hp => nomatch hp)
  exact ⟨m, s', k0, _, k1, g', ρ', k2, k3.done 0⟩
 | .seq a c, _, t, g, ρ, K, r, hr, h => by
  refine Ends.seq ((run_ok a hr h).mono ?_)
  rintro ex s' ⟨t', k1, g', ρ', k2, k3⟩
  cases ex with
  | normal => exact Fin.lift k2 (run_ok c k1 k3)
  | exit j => exact ⟨t', k1, g', ρ', k2, k3⟩
  | ret => exact ⟨t', k1, g', ρ', k2, k3⟩
 | .cond c x y, _, t, g, ρ, K, r, hr, h => by
  simp only [run] at hr
  split at hr
  ·rename_i v hv
   refine Ends.cond (h.sc hv) (fun e => ?_) (fun e => ?_)
   ·subst e; exact run_ok x hr h
   ·subst e; exact run_ok y hr h
  ·cases hr
 | .block j a, _, t, g, ρ, K, r, hr, h => by
  refine Ends.block ((run_ok a hr h).mono ?_)
  rintro ex s' ⟨t', k1, k2⟩
  cases ex with
  | normal => exact ⟨t', k1, k2⟩
  | ret => exact ⟨t', k1, k2⟩
  | exit i =>
   simp only at k1
   simp only [Blocked]
   split at k1
   ·rename_i e
    rw [if_pos (Nat.eq_of_beq_eq_true e)]
    exact ⟨t', k1, k2⟩
   ·rename_i e
    rw [if_neg (beq_ne e)]
    exact ⟨t', k1, k2⟩
 | .cut xs a, _, t, g, ρ, K, r, hr, h => by
  simp only [run, Option.bind_eq_some_iff] at hr
  obtain ⟨q, h1, h2⟩ := hr
  refine (run_ok a h1 h).mono ?_
  rintro ex s' ⟨t', k1, g', ρ', k2, k3⟩
  obtain ⟨t2, ρ2, k4, k5, _⟩ := closeX_ok k3 k1 h2
  exact ⟨t2, k4, g', ρ2, k2, k5⟩
 | .loop hd xs a, _, t, g, ρ, K, r, hr, h => by
  simp only [run] at hr
  split at hr
  ·rename_i p hp
   simp only [Option.bind_eq_some_iff] at hr
   obtain ⟨q, h1, h2⟩ := hr
   obtain ⟨ρ1, h3⟩ := h.closeSh hp
   clear hp h
   have key : ∀ (n : Nat) (p : Flds S hd.cs) (g : St) (ρ1 : Rho), iter n (fun p => run Γ N k a (openSh hd p) fun ex t => match ex with
     | .normal => (match closeSh hd t with
      | some p => some (.inl p)
      | none => none)
     | ex => (match closeX xs ex t with
      | some q => some (.inr q)
      | none => none)) p = some q → RelR fr 0 N ρ1 (openSh hd p) g → Ends pr (.loop a.er) g (Fin fr N K r) := by
    intro n
    induction n with
    | zero => intro p g ρ1 h1; cases h1
    | succ n ih =>
     intro p g ρ1 h1 h3
     simp only [iter, Option.bind_eq_some_iff] at h1
     obtain ⟨v, hv, h1⟩ := h1
     refine Ends.round ((run_ok a hv h3).mono ?_)
     rintro ex s' ⟨t', k1, g', ρ', k2, k3⟩
     have out : ∀ {ex : Ex}, (match closeX xs ex t' with
       | some q => some (Sum.inr q)
       | none => none : Option (Flds S hd.cs ⊕ QT S xs)) = some v → Fin fr N K r ex s' := by
      intro ex k1
      split at k1
      ·rename_i q' hq
       cases k1
       cases h1
       obtain ⟨t2, ρ2, k4, k5, _⟩ := closeX_ok k3 hq h2
       exact ⟨t2, k4, g', ρ2, k2, k5⟩
      ·cases k1
     cases ex with
     | normal =>
      simp only at k1
      split at k1
      ·rename_i p' hp'
       cases k1
       obtain ⟨ρ2, k4⟩ := k3.closeSh hp'
       exact Fin.lift k2 (ih p' g' ρ2 h1 k4)
      ·cases k1
     | exit j => exact out k1
     | ret => exact out k1
   exact key k p g ρ1 h1 h3
  ·cases hr
end
end Go.Pi
