/- Layer 15: the chapter's beat ('works'), by its contract. -/
import Derived.Test.YtjjnmbmaahppoaaRef
set_option linter.unusedVariables false
set_option linter.unusedSimpArgs false
namespace Go.Proofs.Ytjjnmbmaahppoaa.Base
open Go.RowKit Go.Proofs.YtjjnmbmaahppoaaW.PrintWords Go.Proofs.YtjjnmbmaahppoaaW.PrintLast Go.Proofs.YtjjnmbmaahppoaaW.PrintMore
attribute [local go_sem] max2_int min2_int max_two min_two

theorem start_ok (g : Nat) (f c a now : Int) (r : Bool) (t : Nat) (w : World) (h : BA w g f c r a t) (h0 : 1 ≤ f) (h1 : f ≤ c) (h2 : c ≤ 10000) (hn : okN now = true) :
    Calls Try.prog 9 #[.pointer (some ⟨g, 0, none⟩), .int .i64 now] w fun e w' => e = .returned (.int .i64 0) ∧ BA w' g f c true (now + f) 0 ∧ Only g w w' :=
  (start_c g f c a now r t w h h0 h1 h2).mono fun e w' h => by rw [hn, if_pos rfl, if_pos rfl] at h; exact h
theorem due_yes (g : Nat) (f c a now : Int) (r : Bool) (t : Nat) (w : World) (h : BA w g f c r a t) (h0 : 1 ≤ f) (h1 : f ≤ c) (h2 : c ≤ 10000) (ha : 0 ≤ a) (ht : t < 10000) (hn : dueB r a now = true) (a' : Int) (he : a' = now + wv f c (t + 1)) :
    Calls Try.prog 10 #[.pointer (some ⟨g, 0, none⟩), .int .i64 now] w fun e w' => e = .returned (.bool true) ∧ BA w' g f c r a' (t + 1) ∧ Only g w w' :=
  (due_c g f c a now r t w h h0 h1 h2 ha ht).mono fun e w' h => by subst he; rw [hn, if_pos rfl] at h; exact h
theorem due_no (g : Nat) (f c a now : Int) (r : Bool) (t : Nat) (w : World) (h : BA w g f c r a t) (h0 : 1 ≤ f) (h1 : f ≤ c) (h2 : c ≤ 10000) (ha : 0 ≤ a) (ht : t < 10000) (hn : dueB r a now = false) :
    Calls Try.prog 10 #[.pointer (some ⟨g, 0, none⟩), .int .i64 now] w fun e w' => e = .returned (.bool false) ∧ BA w' g f c r a t ∧ Only g w w' :=
  (due_c g f c a now r t w h h0 h1 h2 ha ht).mono fun e w' h => by rw [hn] at h; exact h

set_option maxRecDepth 100000 in
set_option maxHeartbeats 1000000 in
theorem works_c (w : World) : Calls Try.prog 6 #[] w fun e w' => e = .returned (.bool true) ∧ Below w.heap.size w w' := by
  go_enter Try.func6, Try.ntmps6
  go_wp2_with fail
  refine (new_yes 2 5 _ (by decide) (by decide) (by decide) (by decide)).mono ?_
  rintro e w1 ⟨rfl, hb, hw⟩
  obtain ⟨g, hg⟩ : ∃ g, g = w.heap.size := ⟨_, rfl⟩
  rw [← hg] at hb
  rw [← hg]
  have HB := Bx.mk hb
  have HW := Bx.mk hw
  have HG := Bx.mk hg
  clear hb hw hg
  go_wp2_with fail
  refine (start_ok g 2 5 _ 10 _ _ _ HB.out (by decide) (by decide) (by decide) (by decide)).mono ?_
  rintro e w2 ⟨rfl, hb, ho⟩
  have HB2 := Bx.mk hb
  have HO2 := Bx.mk ho
  clear hb ho
  go_wp2_with fail
  refine (due_no g 2 5 _ 11 _ _ _ HB2.out (by decide) (by decide) (by decide) (by decide) (by decide) (by decide)).mono ?_
  rintro e w3 ⟨rfl, hb, ho⟩
  have HB3 := Bx.mk hb
  have HO3 := Bx.mk (HO2.out.trans ho)
  clear hb ho HB HB2 HO2
  go_wp2_with fail
  refine (due_yes g 2 5 _ 12 _ _ _ HB3.out (by decide) (by decide) (by decide) (by decide) (by decide) (by decide) 16 (by decide)).mono ?_
  rintro e w4 ⟨rfl, hb, ho⟩
  have HB4 := Bx.mk hb
  have HO4 := Bx.mk (HO3.out.trans ho)
  clear hb ho HB3 HO3
  go_wp2_with fail
  refine (at_c g 2 5 _ _ _ _ HB4.out (by decide)).mono ?_
  rintro e _ ⟨rfl, rfl⟩
  go_wp2_with fail
  refine (due_yes g 2 5 _ 16 _ _ _ HB4.out (by decide) (by decide) (by decide) (by decide) (by decide) (by decide) 21 (by decide)).mono ?_
  rintro e w5 ⟨rfl, hb, ho⟩
  have HB5 := Bx.mk hb
  have HO5 := Bx.mk (HO4.out.trans ho)
  clear hb ho HB4 HO4
  go_wp2_with fail
  refine (at_c g 2 5 _ _ _ _ HB5.out (by decide)).mono ?_
  rintro e _ ⟨rfl, rfl⟩
  go_wp2_with fail
  refine (tries_c g 2 5 _ _ _ _ HB5.out (by decide)).mono ?_
  rintro e _ ⟨rfl, rfl⟩
  go_wp2_with fail
  refine (due_yes g 2 5 _ 30 _ _ _ HB5.out (by decide) (by decide) (by decide) (by decide) (by decide) (by decide) 35 (by decide)).mono ?_
  rintro e w6 ⟨rfl, hb, ho⟩
  have HB6 := Bx.mk hb
  have HO6 := Bx.mk (HO5.out.trans ho)
  clear hb ho HB5 HO5
  go_wp2_with fail
  refine (at_c g 2 5 _ _ _ _ HB6.out (by decide)).mono ?_
  rintro e _ ⟨rfl, rfl⟩
  go_wp2_with fail
  refine (stop_c g 2 5 _ _ _ _ HB6.out (by decide)).mono ?_
  rintro e w7 ⟨rfl, hb, ho⟩
  have HB7 := Bx.mk hb
  have HO7 := Bx.mk (HO6.out.trans ho)
  clear hb ho HB6 HO6
  go_wp2_with fail
  refine (due_no g 2 5 _ 99 _ _ _ HB7.out (by decide) (by decide) (by decide) (by decide) (by decide) (by decide)).mono ?_
  rintro e w8 ⟨rfl, hb, ho⟩
  have HB8 := Bx.mk hb
  have HO8 := Bx.mk (HO7.out.trans ho)
  clear hb ho HB7 HO7
  go_wp2_with fail
  refine (tries_c g 2 5 _ _ _ _ HB8.out (by decide)).mono ?_
  rintro e _ ⟨rfl, rfl⟩
  go_wp2_with fail
  refine (runs_c g 2 5 _ _ _ _ HB8.out (by decide)).mono ?_
  rintro e _ ⟨rfl, rfl⟩
  go_wp2_with fail
  go_ret
  exact ⟨rfl, HO8.out.below HW.out HW.out.size (by have := HG.out; omega)⟩
end Go.Proofs.Ytjjnmbmaahppoaa.Base
