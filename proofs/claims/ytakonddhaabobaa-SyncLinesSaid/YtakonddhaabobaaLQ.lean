import Derived.Test.YtakonddhaabobaaLP
import Derived.Test.YtakonddhaabobaaFN
set_option linter.all false
namespace Go.Pi
set_option linter.unusedVariables false
section
variable {S : Nat → Type} [Sg : Sig S]
theorem Cl.inv_int {k : IntKind} {n : Int} {d : D} (h : Cl [] 1 (.int k n) d) : d = .int k n := by
 rcases h with ⟨_, h⟩ | ⟨sz, es, id, off, len, es0, e, _⟩ | ⟨cs, id, i, j, sz, es0, e', e, _⟩ | ⟨cs, ds, e, _⟩
 ·simpa [Nr] using h
 ·cases e
 ·cases e
 ·cases e
theorem vs_inv_int {k : IntKind} {n : Int} {d : D} (h : VS (S := S) noRho [] (.one 1 (.int k) n) d) : d = .int k n := by
 have h : All2 (Cl [] 1) [D.int k n] [d] := h
 exact h.1.inv_int
theorem XOk.val {pr : Prog} {X : List XW} (h : XOk pr X) {f : Nat} {a : List D} {g : D} (hm : ⟨f, a, g⟩ ∈ X) (hg : tupD g = false) {c : Code} {v : T S c} (hv : VS (S := S) noRho [] (.one 1 c v) g) :
  Runs pr f a [] fun d H' => tupD d = tpR [RK.val c] ∧ ∃ xs hs rd, expL H' (comps d) = some (xs, hs, rd) ∧ nodup hs = true ∧ apart hs rd = true ∧ ResX (S := S) [.val c] (v, ()) xs := by
 obtain ⟨m, d, H', rd, h1, h2, h3, h4⟩ := h _ hm
 have hc : comps g = [g] := by cases g <;> first | rfl | cases hg
 simp only [hc] at h2 h3
 refine ⟨m, d, H', h1, ?_, [g], [], rd, h2, rfl, rfl, hv, rfl⟩
 show tupD d = false
 cases d <;> first | rfl | (simp only [recomp] at h3; rw [← h3] at hg; exact hg)
def nrB : Nat → D → D → Bool
 | 0, _, _ => false
 | n + 1, .lst s es, .nil => es.isEmpty
 | n + 1, .lst s es, .lst s' es' => s == s' && (es.length == es'.length && (es.zip es').all fun p => p.1.length == p.2.length && (p.1.zip p.2).all fun q => nrB n q.1 q.2)
 | n + 1, .int k a, .int k' b => k == k' && a == b
 | n + 1, .str a, .str b => a == b
 | n + 1, .bool a, .bool b => a == b
 | _, _, _ => false
theorem all2_zip {α β : Type} {R : α → β → Prop} {f : α × β → Bool} (hf : ∀ a b, f (a, b) = true → R a b) : ∀ {l : List α} {m : List β}, l.length = m.length → (l.zip m).all f = true → All2 R l m
 | [], [], _, _ => trivial
 | a :: l, b :: m, h, k => by
  simp only [List.zip_cons_cons, List.all_cons, Bool.and_eq_true] at k
  exact ⟨hf a b k.1, all2_zip hf (by simpa using h) k.2⟩
 | [], _ :: _, h, _ => by simp at h
 | _ :: _, [], h, _ => by simp at h
theorem nrB_ok : ∀ (n : Nat) (a b : D), nrB n a b = true → Nr a b
 | 0, _, _, h => by cases h
 | n + 1, a, b, h => by
  unfold nrB at h
  split at h
  ·cases h
  ·rename_i es _
   have : es = [] := List.isEmpty_iff.1 h
   subst this
   exact Nr.mk_nil
  ·simp only [Bool.and_eq_true, beq_iff_eq] at h
   obtain ⟨rfl, h1, h2⟩ := h
   refine Nr.mk_lst (all2_zip (fun a b h => ?_) h1 h2)
   simp only [Bool.and_eq_true, beq_iff_eq] at h
   exact all2_zip (fun a b h => nrB_ok _ a b h) h.1 h.2
  ·simp only [Bool.and_eq_true, beq_iff_eq] at h
   obtain ⟨h1, rfl⟩ := h
   cases h1
   simp [Nr]
  ·simp only [beq_iff_eq] at h
   subst h
   simp [Nr]
  ·simp only [beq_iff_eq] at h
   subst h
   simp [Nr]
  ·cases h
def clB (a b : D) : Bool := plain b && nrB 9 a b
theorem vs_st {i : Nat} {v : T S (.st i)} {ds : List D} (hl : (en (.st i) v).length = ds.length) (h : ((en (.st i) v).zip ds).all (fun p => clB p.1 p.2) = true) : VS (S := S) noRho [] (.one 1 (.st i) v) (.agg ds) := by
 refine ⟨ds, rfl, all2_zip (fun a b h => ?_) hl h⟩
 simp only [clB, Bool.and_eq_true] at h
 exact Cl.plain h.1 (nrB_ok _ _ _ h.2)
end
end Go.Pi

