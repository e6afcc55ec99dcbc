/- Layer 10: the reference's group (catenaryref10), by its contracts. -/
import Derived.Test.YtcfojkejajanlaaNew
set_option linter.unusedVariables false
set_option linter.unusedSimpArgs false
namespace Go.Proofs.Ytcfojkejajanlaa.Base
open Go.RowKit Go.Proofs.YtcfojkejajanlaaW.PrintWords Go.Proofs.YtcfojkejajanlaaW.PrintLast Go.Proofs.YtcfojkejajanlaaW.PrintMore Go.Proofs.Ytcfojkejajanlaa.PGroupPlays

/-- The reference's group: its ports, and which are on. -/
def RA (w : World) (B g : Nat) (ps : List Int) (lv : Int → Bool) : Prop :=
  ∃ v, w.heap[g]? = some (.cells #[v, .bool false, .bool (lv 1), .bool (lv 2), .bool (lv 3), .bool (lv 4)] 52 (0, 0)) ∧ B ≤ g ∧ (Kd.int .i64).R 3 w B (fun _ => True) v ps
theorem RA.below {w w' : World} {B g : Nat} {ps : List Int} {lv : Int → Bool} (h : RA w B g ps lv) (hb : Below w.heap.size w w') : RA w' B g ps lv := by
  obtain ⟨v, hg, hB, hr⟩ := h
  exact ⟨v, keep hg hb, hB, Kd.R_below hr hb⟩
theorem RA.move {w w' : World} {B g x : Nat} {ps : List Int} {lv : Int → Bool} {cx : Array Value} {T : TypeId} {fr : Nat × Nat} (h : RA w B g ps lv) (hx : w.heap[x]? = some (.cells cx T fr)) (h3 : T ≠ 3) (h52 : T ≠ 52)
    (hk : ∀ k, k < w.heap.size → k ≠ x → w'.heap[k]? = w.heap[k]?) : RA w' B g ps lv := by
  obtain ⟨v, hg, hB, hr⟩ := h
  refine ⟨v, ?_, hB, ?_⟩
  · rw [hk g (blk_lt hg) ?_]; exact hg
    rintro rfl; rw [hg] at hx; injection hx with hx; injection hx with _ hx; exact h52 hx.symm
  · refine Kd.R_mono (Kd.R_move (Kd.R_bound hr) ?_) (fun _ _ => trivial)
    rintro k ⟨_, _, hlt, q, hq, cells, hc⟩
    refine hk k hlt ?_
    rintro rfl
    rw [hc] at hx; injection hx with hx; injection hx with _ hx
    simp [Kd.int, Kd.scalar] at hq
    exact h3 (hx.symm.trans hq)
/-- The group's own block turns: the reference's stays, and the other way round. -/
theorem RA.onlyG {w w' : World} {B g m : Nat} {ps : List Int} {al lv lv' : Int → Bool} (h : RA w B m ps lv) (hg : GA w B g ps al lv') (ho : Only g w w') : RA w' B m ps lv := by
  obtain ⟨v, hb, _⟩ := hg; exact h.move hb (by decide) (by decide) ho.block
theorem GA.onlyR {w w' : World} {B g m : Nat} {ps : List Int} {al lv lv' : Int → Bool} (h : GA w B g ps al lv) (hg : RA w B m ps lv') (ho : Only m w w') : GA w' B g ps al lv := by
  obtain ⟨v, hb, _⟩ := hg; exact h.move hb (by decide) (by decide) ho.block
theorem cells6 {w : World} {g : Nat} {a b c d e f : Value} {t : TypeId} (h : w.heap[g]? = some (.cells #[a, b, c, d, e, f] t (0, 0))) : w.cell? ⟨g, 0, none⟩ = some a ∧ w.cell? ⟨g, 1, none⟩ = some b ∧ w.cell? ⟨g, 2, none⟩ = some c ∧ w.cell? ⟨g, 3, none⟩ = some d ∧ w.cell? ⟨g, 4, none⟩ = some e ∧ w.cell? ⟨g, 5, none⟩ = some f :=
  ⟨cell_of_row w g 0 _ t (0, 0) h, cell_of_row w g 1 _ t (0, 0) h, cell_of_row w g 2 _ t (0, 0) h, cell_of_row w g 3 _ t (0, 0) h, cell_of_row w g 4 _ t (0, 0) h, cell_of_row w g 5 _ t (0, 0) h⟩

theorem mem_snoc (ps : List Int) (p : Int) (i : Nat) (hi : i < ps.length) (h : ¬ p ∈ ps.take i) (hn : (ps[i] == p) = false) : ¬ p ∈ ps.take (i + 1) := by
  rw [List.take_succ_eq_append_getElem hi]
  intro hm
  rcases List.mem_append.1 hm with hm | hm
  · exact h hm
  · rw [List.mem_singleton.1 hm] at hn; simp at hn
set_option maxHeartbeats 800000 in
theorem has_c (g B : Nat) (ps : List Int) (lv : Int → Bool) (p : Int) (w : World) (hG : RA w B g ps lv) (hl : ps.length ≤ 1000) :
    Calls Try.prog 24 #[.pointer (some ⟨g, 0, none⟩), .int .i64 p] w fun e w' => e = .returned (.bool (inL ps p)) ∧ w = w' := by
  obtain ⟨v, hg, hB, hr⟩ := hG
  obtain ⟨c0, c1, c2, c3, c4, c5⟩ := cells6 hg
  obtain ⟨A, c, rfl, hlc, hC⟩ := Kd.R_reads hr
  have HC := Bx.mk hC
  clear hg hr hC c1 c2 c3 c4 c5
  go_enter Try.func24, Try.ntmps24
  go_wp2_with fail
  go_loop [5] (fun v => ∃ i : Nat, i ≤ ps.length ∧ v = .int .i64 i ∧ Bx (¬ p ∈ ps.take i)) (fun v => ps.length - (intOf v).toNat)
  case atStart => exact ⟨0, by omega, rfl, ⟨by simp⟩⟩
  case round =>
    obtain ⟨i, hi, rfl, HT⟩ := hrel
    by_cases h : i < ps.length
    · obtain ⟨ad, rfl, hce⟩ := intCell HC.out i h
      have h0 : (0 : Int) ≤ (i : Int) := by omega
      have h1 : (i : Int) < (ps.length : Int) := by omega
      have hmem : ps[i] ∈ ps := List.getElem_mem h
      obtain ⟨q, hq⟩ : ∃ q, q = ps[i] := ⟨_, rfl⟩
      rw [← hq] at hce hmem
      have HQ := Bx.mk hq
      clear hq
      by_cases he : q = p
      · subst he
        have e1 : (q == q) = true := by simp
        have HM := Bx.mk hmem
        clear hmem
        go_wp2
        go_ret
        exact ⟨retBool (decide_eq_true HM.out).symm, rfl⟩
      · have e1 : (q == p) = false := by simpa using he
        have HN := Bx.mk (mem_snoc ps p i h HT.out (by rw [← HQ.out]; exact e1))
        clear hmem he
        go_wp2
        go_round
        case rel => exact ⟨i + 1, by omega, by go_num, HN⟩
        case measure => simp [intOf]; omega
    · obtain rfl : i = ps.length := by omega
      have hm := HT.out
      rw [List.take_length] at hm
      have HM := Bx.mk hm
      clear hm
      go_wp2
      go_ret
      exact ⟨retBool (decide_eq_false HM.out).symm, rfl⟩
set_option maxHeartbeats 800000 in
theorem rup_c (g B : Nat) (ps : List Int) (lv : Int → Bool) (p : Int) (w : World) (hG : RA w B g ps lv) (hP : okP ps) (hl : ps.length ≤ 1000) :
    Calls Try.prog 17 #[.pointer (some ⟨g, 0, none⟩), .int .i64 p] w fun e w' => e = .returned (.bool (upV ps lv p)) ∧ w = w' := by
  have HG := Bx.mk hG
  obtain ⟨v, hg, hB, hr⟩ := hG
  obtain ⟨c0, c1, c2, c3, c4, c5⟩ := cells6 hg
  clear hg hr
  by_cases hp : p ∈ ps
  · have e1 : inL ps p = true := decide_eq_true hp
    have e2 := Bx.mk (show upV ps lv p = lv p by unfold upV; rw [decide_eq_true hp]; rfl)
    have hq : p = 1 ∨ p = 2 ∨ p = 3 ∨ p = 4 := by have := hP.1 p hp; omega
    clear hp hP
    rcases hq with rfl | rfl | rfl | rfl
    all_goals
      go_enter Try.func17, Try.ntmps17
      go_wp2_with (go_at_call 24; (with_reducible refine (has_c _ B ps lv _ _ ?hg hl).mono ?_); (case hg => exact HG.out); rintro e w' ⟨rfl, rfl⟩)
      go_ret
      exact ⟨retBool e2.out.symm, rfl⟩
  · have e1 : inL ps p = false := decide_eq_false hp
    have e2 := Bx.mk (show upV ps lv p = false by unfold upV; rw [decide_eq_false hp]; rfl)
    clear hp hP
    go_enter Try.func17, Try.ntmps17
    go_wp2_with (go_at_call 24; (with_reducible refine (has_c _ B ps lv _ _ ?hg hl).mono ?_); (case hg => exact HG.out); rintro e w' ⟨rfl, rfl⟩)
    go_ret
    exact ⟨retBool e2.out.symm, rfl⟩
theorem RA.set {w : World} {B g : Nat} {ps : List Int} {lv : Int → Bool} (h : RA w B g ps lv) (p : Int) (b : Bool) (h0 : 1 ≤ p) (h1 : p ≤ 4) : RA (w.setCell ⟨g, 1 + p.toNat, none⟩ (.bool b)) B g ps (upd lv p b) := by
  obtain ⟨v, hg, hB, hr⟩ := h
  refine ⟨v, ?_, hB, Kd.R_mono (Kd.R_set hr hg (by simp [Kd.int, Kd.scalar]) _ _) (fun _ _ => trivial)⟩
  obtain rfl | rfl | rfl | rfl : p = 1 ∨ p = 2 ∨ p = 3 ∨ p = 4 := by omega
  · simpa [upd] using blk_set hg 2 (.bool b)
  · simpa [upd] using blk_set hg 3 (.bool b)
  · simpa [upd] using blk_set hg 4 (.bool b)
  · simpa [upd] using blk_set hg 5 (.bool b)
set_option maxHeartbeats 800000 in
theorem rlive_yes (g B : Nat) (ps : List Int) (lv : Int → Bool) (p : Int) (b : Bool) (w : World) (hG : RA w B g ps lv) (hP : okP ps) (hl : ps.length ≤ 1000) (hp : p ∈ ps) :
    Calls Try.prog 11 #[.pointer (some ⟨g, 0, none⟩), .int .i64 p, .bool b] w fun e w' => e = .returned (.int .i64 0) ∧ RA w' B g ps (upd lv p b) ∧ Only g w w' := by
  have HG := Bx.mk hG
  obtain ⟨v, hg, hB, hr⟩ := hG
  obtain ⟨c0, c1, c2, c3, c4, c5⟩ := cells6 hg
  have f2 := blk_frozen hg 2
  have f3 := blk_frozen hg 3
  have f4 := blk_frozen hg 4
  have f5 := blk_frozen hg 5
  clear hg hr
  have e1 : inL ps p = true := decide_eq_true hp
  have hq : p = 1 ∨ p = 2 ∨ p = 3 ∨ p = 4 := by have := hP.1 p hp; omega
  have HS := Bx.mk (HG.out.set p b (by omega) (by omega))
  clear hp hP
  rcases hq with rfl | rfl | rfl | rfl
  all_goals
    go_enter Try.func11, Try.ntmps11
    go_wp2_with (go_at_call 24; (with_reducible refine (has_c _ B ps lv _ _ ?hg hl).mono ?_); (case hg => exact HG.out); rintro e w' ⟨rfl, rfl⟩)
    go_ret
    exact ⟨rfl, HS.out, Only.set w g _ 0 _⟩
set_option maxHeartbeats 800000 in
theorem rlive_no (g B : Nat) (ps : List Int) (lv : Int → Bool) (p : Int) (b : Bool) (w : World) (hG : RA w B g ps lv) (hl : ps.length ≤ 1000) (hp : ¬ p ∈ ps) :
    Calls Try.prog 11 #[.pointer (some ⟨g, 0, none⟩), .int .i64 p, .bool b] w fun e w' => e = .returned (.int .i64 9) ∧ w = w' := by
  have HG := Bx.mk hG
  have e1 : inL ps p = false := decide_eq_false hp
  clear hp hG
  go_enter Try.func11, Try.ntmps11
  go_wp2_with (go_at_call 24; (with_reducible refine (has_c _ B ps lv _ _ ?hg hl).mono ?_); (case hg => exact HG.out); rintro e w' ⟨rfl, rfl⟩)
  go_ret
  exact ⟨rfl, rfl⟩
set_option maxHeartbeats 800000 in
theorem rfirst_c (g B : Nat) (ps : List Int) (lv : Int → Bool) (w : World) (hG : RA w B g ps lv) (hP : okP ps) (hl : ps.length ≤ 1000) :
    Calls Try.prog 13 #[.pointer (some ⟨g, 0, none⟩)] w fun e w' => e = .returned (.tuple #[.int .i64 (firstV ps lv).1, .bool (firstV ps lv).2]) ∧ Drawn0 w w' := by
  obtain ⟨v, hg, hB, hr⟩ := hG
  obtain ⟨c0, c1, c2, c3, c4, c5⟩ := cells6 hg
  obtain ⟨A, c, rfl, hlc, hC⟩ := Kd.R_reads hr
  have HC := Bx.mk hC
  have HP := Bx.mk hP
  clear hg hr hC hP
  go_enter Try.func13, Try.ntmps13
  go_wp2_with fail
  go_loopw [4] (fun v wr => ∃ i : Nat, i ≤ ps.length ∧ v = .int .i64 i ∧ Bx ((ps.take i).find? lv = none) ∧ Drawn0 w wr) (fun v _ => ps.length - (intOf v).toNat)
  case atStart => exact ⟨0, by omega, rfl, ⟨rfl⟩, Drawn0.refl _⟩
  case round =>
    obtain ⟨i, hi, rfl, HT, ⟨⟨n, rfl⟩⟩⟩ := hrel
    by_cases h : i < ps.length
    · obtain ⟨ad, rfl, hce⟩ := intCell HC.out i h
      have h0 : (0 : Int) ≤ (i : Int) := by omega
      have h1 : (i : Int) < (ps.length : Int) := by omega
      have hmem : ps[i] ∈ ps := List.getElem_mem h
      obtain ⟨q, hq⟩ : ∃ q, q = ps[i] := ⟨_, rfl⟩
      rw [← hq] at hce hmem
      have HQ := Bx.mk hq
      have hq4 : q = 1 ∨ q = 2 ∨ q = 3 ∨ q = 4 := by have := HP.out.1 q hmem; omega
      clear hq hmem
      cases hlv : lv q
      · have HL := Bx.mk (take_find_snoc ps lv i h HT.out (by rw [← HQ.out]; exact hlv))
        rcases hq4 with rfl | rfl | rfl | rfl
        all_goals
          go_wp2_with fail
          go_quiet (fail)
          go_wp2
          go_roundw
          case rel => exact ⟨i + 1, by omega, by go_num, HL, ⟨⟨_, rfl⟩⟩⟩
          case measure => simp [intOf]; omega
      · have HL := Bx.mk (find_at ps lv i h HT.out (by rw [← HQ.out]; exact hlv))
        rcases hq4 with rfl | rfl | rfl | rfl
        all_goals
          go_wp2_with fail
          go_quiet (fail)
          go_wp2
          go_ret2
          exact ⟨retTwo (by rw [HL.out]; exact HQ.out) (by rw [HL.out]), ⟨⟨_, rfl⟩⟩⟩
    · obtain rfl : i = ps.length := by omega
      have HL := Bx.mk (find_no ps lv HT.out)
      go_wp2
      go_ret2
      exact ⟨retTwo (by rw [HL.out]) (by rw [HL.out]), ⟨⟨_, rfl⟩⟩⟩
set_option maxHeartbeats 400000 in
theorem rports_c (g B : Nat) (ps : List Int) (lv : Int → Bool) (w : World) (hG : RA w B g ps lv) (hl : ps.length ≤ 1000) :
    Calls Try.prog 15 #[.pointer (some ⟨g, 0, none⟩)] w (PortsPost w ps) := by
  obtain ⟨v, hg, hB, hr⟩ := hG
  obtain ⟨c0, _⟩ := cells6 hg
  obtain ⟨A, c, rfl, hlc, hC⟩ := Kd.R_reads hr
  have HC := Bx.mk hC
  clear hg hr hC
  have hf : catenaryref00_CopyInts.f ps = some ps := by unfold catenaryref00_CopyInts.f; rw [if_pos (by simp; omega)]; rfl
  have HF := Bx.mk hf
  clear hf
  go_enter Try.func15, Try.ntmps15
  go_wp2_with (go_at_call 6; (with_reducible refine (catenaryref00_CopyInts.calls _ _ ps ps _ ?hr ?hc HF.out).mono ?_); (case hr => exact HC.out); (case hc => exact hlc); rintro e w1 ⟨v1, rfl, ho, hb⟩; have HO := Bx.mk ho; have HB := Bx.mk hb; clear ho hb)
  go_ret
  exact ⟨_, rfl, HO.out, HB.out⟩
end Go.Proofs.Ytcfojkejajanlaa.Base
