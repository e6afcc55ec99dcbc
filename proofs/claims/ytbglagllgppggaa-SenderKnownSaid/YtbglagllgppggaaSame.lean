/- Layer 13: SameItems of a list and itself; items that are written over. -/
import Derived.Test.YtbglagllgppggaaBoth
set_option linter.unusedVariables false
set_option linter.unusedSimpArgs false
namespace Go.Proofs.Ytbglagllgppggaa.Base
open Go.RowKit Go.Proofs.YtbglagllgppggaaW.PrintWords Go.Proofs.YtbglagllgppggaaW.PrintLast Go.Proofs.YtbglagllgppggaaW.PrintMore
open Go.Proofs.Ytbglagllgppggaa.Comm Go.Proofs.Ytbglagllgppggaa.PSenderPlays

theorem same_l0 (xs : List S35) (hl : xs.length ≤ 1000) : ∀ (k : Nat) (i : Nat), i ≤ xs.length → xs.length < k + i → catenaryref13_SameItems.l0 k xs xs (i : Int) = some true
  | 0, i, h, h' => by omega
  | k + 1, i, h, h' => by
    unfold catenaryref13_SameItems.l0
    by_cases hi : i < xs.length
    · rw [if_pos (by omega), if_pos (by omega), if_pos (by omega), if_pos rfl]
      have he : catenaryref00_EqBytes.f (rd_T35 xs (i : Int)).f1 (rd_T35 xs (i : Int)).f1 = some true := by unfold catenaryref00_EqBytes.f; simp
      rw [he, Option.bind_some, if_pos rfl, show wrap64 ((i : Int) + 1) = ((i + 1 : Nat) : Int) from by unfold wrap64; omega]
      exact same_l0 xs hl k (i + 1) (by omega) (by omega)
    · rw [if_neg (by omega)]
theorem same_c (A : Option Addr) (c : Nat) (A' : Option Addr) (c' : Nat) (xs : List S35) (w : World) (hC : k35.C w A xs.length xs) (hc : xs.length ≤ c) (hC' : k35.C w A' xs.length xs) (hc' : xs.length ≤ c') (hl : xs.length ≤ 1000) :
    Calls Try.prog 30 #[.slice A xs.length c, .slice A' xs.length c'] w fun e w' => e = .returned (.bool true) ∧ Drawn0 w w' :=
  catenaryref13_SameItems.calls (xs.length + 1) A c xs A' c' xs true w hC hc hC' hc' (by
    unfold catenaryref13_SameItems.f
    rw [if_pos rfl]
    exact same_l0 xs hl (xs.length + 1) 0 (by omega) (by omega))
theorem items_short {nx : Int} {ms : List (List Int)} {a n : Nat} (hm : ∀ m ∈ ms, m.length ≤ 256) : ∀ x ∈ items nx ms a n, x.f1.length ≤ 1000 := by
  intro x hx
  unfold items at hx
  obtain ⟨k, _, rfl⟩ := List.mem_map.1 hx
  show (ms.getD (a + k) []).length ≤ 1000
  by_cases h : a + k < ms.length
  · have := hm _ (List.getElem_mem h)
    rw [List.getD_eq_getElem?_getD, List.getElem?_eq_getElem h]
    simp; omega
  · rw [List.getD_eq_getElem?_getD, List.getElem?_eq_none (by omega)]
    simp
/-- Item t of a row of items in block p, that may be written over: its cells are there. -/
def XI (w : World) (b p t : Nat) : Prop := ∃ (s : Int) (A : Option Addr) (m c : Nat), w.cell? ⟨p, t * 2, none⟩ = some (.int .i64 s) ∧ w.cell? ⟨p, t * 2 + 1, none⟩ = some (.slice A m c) ∧ m ≤ c ∧ m ≤ 1000 ∧
  (0 < m → ∃ q, A = some ⟨q, 0, none⟩ ∧ b ≤ q ∧ q ≠ p ∧ ∀ j : Nat, j < m → (∃ x, w.cell? ⟨q, j, none⟩ = some (.int .u8 x)) ∧ w.frozen? ⟨q, j, none⟩ = false)
structure XS (w : World) (b p n : Nat) : Prop where
  one : ∀ t, t < n → XI w b p t
  fz : ∀ o, w.frozen? ⟨p, o, none⟩ = false
theorem XS.of_R {w : World} {b p c : Nat} {xs : List S35} (h : k35.R 35 w b (fun _ => True) (.slice (some ⟨p, 0, none⟩) xs.length c) xs) (hm : ∀ x ∈ xs, x.f1.length ≤ 1000) (hp : 0 < xs.length) : XS w b p xs.length := by
  refine ⟨fun t ht => ?_, ?_⟩
  · obtain ⟨cs, hcl, hM, hcc, hfz⟩ := Kd.R_elem h z35 (t : Int) (by omega) (by omega)
    have e2 : (t : Int).toNat = t := by omega
    rw [e2] at hM hcc hfz
    have hx := hm _ (List.getElem_mem ht)
    have hg : xs.getD t z35 = xs[t] := by simp [List.getD, ht]
    rw [hg] at hM
    generalize xs[t] = x at *
    obtain ⟨v1, rfl, hR⟩ := k35_openM hM
    obtain ⟨A1, c1, rfl, hl1, _⟩ := Kd.R_reads hR
    refine ⟨x.f0, A1, x.f1.length, c1, hcc 0 _ rfl, hcc 1 _ rfl, hl1, hx, fun h0 => ?_⟩
    obtain ⟨q, cap, e, hb, hlt, _⟩ := Kd.R_form hR h0
    cases e
    refine ⟨q, rfl, hb, (hR.1 q rfl).2, fun j hj => ?_⟩
    have h1 := Kd.R_cell (0 : Int) hR (j : Int) (by omega) (by omega)
    rw [show (j : Int).toNat = j from by omega] at h1
    exact ⟨⟨_, h1.1⟩, h1.2⟩
  · obtain ⟨g, cap, e, _, _, cells, hc⟩ := Kd.R_form h hp
    cases e
    exact fun o => blk_frozen hc o
theorem XS.drewN {w : World} {b p n : Nat} (h : XS w b p n) (k : Nat) : XS (w.drewN k) b p n := ⟨h.one, h.fz⟩
theorem XS.drew {w : World} {b p n : Nat} (h : XS w b p n) : XS w.drew b p n := ⟨h.one, h.fz⟩
theorem cell_far {w : World} {p q : Addr} {v u : Value} (h : p ≠ q) (hc : w.cell? q = some u) : (w.setCell p v).cell? q = some u := (World.cell?_setCell_other _ _ _ _ h).trans hc
theorem addr_off {a b i j : Nat} (h : i ≠ j) : (⟨a, i, none⟩ : Addr) ≠ ⟨b, j, none⟩ := fun e => h (congrArg Addr.off e)
theorem addr_blk {a b i j : Nat} (h : a ≠ b) : (⟨a, i, none⟩ : Addr) ≠ ⟨b, j, none⟩ := fun e => h (congrArg Addr.block e)
theorem XS.seq {w : World} {b p n : Nat} (h : XS w b p n) (t : Nat) (s : Int) (ht : t < n) : XS (w.setCell ⟨p, t * 2, none⟩ (.int .i64 s)) b p n := by
  refine ⟨fun t' ht' => ?_, fun o => (World.frozen?_setCell _ _ _ _).trans (h.fz o)⟩
  obtain ⟨s', A, m, c, h1, h2, h3, h4, h5⟩ := h.one t' ht'
  obtain ⟨s0, A0, m0, c0, k1, _⟩ := h.one t ht
  have e2 : (w.setCell ⟨p, t * 2, none⟩ (.int .i64 s)).cell? ⟨p, t' * 2 + 1, none⟩ = some (.slice A m c) := cell_far (addr_off (by omega)) h2
  have e1 : ∃ s1, (w.setCell ⟨p, t * 2, none⟩ (.int .i64 s)).cell? ⟨p, t' * 2, none⟩ = some (.int .i64 s1) := by
    by_cases he : t' = t
    · subst he; exact ⟨s, World.cell?_setCell_same _ _ _ k1⟩
    · exact ⟨s', cell_far (addr_off (by omega)) h1⟩
  obtain ⟨s1, e1⟩ := e1
  refine ⟨s1, A, m, c, e1, e2, h3, h4, fun h0 => ?_⟩
  obtain ⟨q, hq, hb, hne, hj⟩ := h5 h0
  refine ⟨q, hq, hb, hne, fun j hjm => ?_⟩
  obtain ⟨⟨x, hx⟩, hf⟩ := hj j hjm
  exact ⟨⟨x, cell_far (addr_blk (Ne.symm hne)) hx⟩, (World.frozen?_setCell _ _ _ _).trans hf⟩
theorem XS.byte {w : World} {b p n : Nat} (h : XS w b p n) (q j : Nat) (x y : Int) (hq : q ≠ p) (hc : w.cell? ⟨q, j, none⟩ = some (.int .u8 x)) : XS (w.setCell ⟨q, j, none⟩ (.int .u8 y)) b p n := by
  refine ⟨fun t' ht' => ?_, fun o => (World.frozen?_setCell _ _ _ _).trans (h.fz o)⟩
  obtain ⟨s', A, m, c, h1, h2, h3, h4, h5⟩ := h.one t' ht'
  refine ⟨s', A, m, c, cell_far (addr_blk hq) h1, cell_far (addr_blk hq) h2, h3, h4, fun h0 => ?_⟩
  obtain ⟨q', hq', hb, hne, hj⟩ := h5 h0
  refine ⟨q', hq', hb, hne, fun j' hjm => ?_⟩
  obtain ⟨⟨x', hx'⟩, hf⟩ := hj j' hjm
  refine ⟨?_, (World.frozen?_setCell _ _ _ _).trans hf⟩
  by_cases he : (⟨q, j, none⟩ : Addr) = ⟨q', j', none⟩
  · rw [← he]; exact ⟨y, World.cell?_setCell_same _ _ _ hc⟩
  · exact ⟨x', cell_far he hx'⟩
end Go.Proofs.Ytbglagllgppggaa.Base
