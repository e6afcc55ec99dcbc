/- Layer 13: step: a call of both, of each kind. -/
import Derived.Test.YtbglagllgppggaaSame
set_option linter.unusedVariables false
set_option linter.unusedSimpArgs false
namespace Go.Proofs.Ytbglagllgppggaa.Base
open Go.RowKit Go.Proofs.YtbglagllgppggaaW.PrintWords Go.Proofs.YtbglagllgppggaaW.PrintLast Go.Proofs.YtbglagllgppggaaW.PrintMore
open Go.Proofs.Ytbglagllgppggaa.Comm Go.Proofs.Ytbglagllgppggaa.PSenderPlays

/-- Both senders say the same, whatever that is. -/
def Eq2 (w0 w : World) (g ch r W : Nat) : Prop := ∃ nx ms sd al, J w0 (fun _ => True) w g ch r W nx ms sd al nx ms sd al
theorem J.eq2 {w0 w : World} {U : Nat → Prop} {g ch r W : Nat} {nx : Int} {ms : List (List Int)} {sd al : Nat} (h : J w0 U w g ch r W nx ms sd al nx ms sd al) : Eq2 w0 w g ch r W := ⟨nx, ms, sd, al, h.mono (fun _ _ => trivial)⟩
theorem cell_fr {S : Nat → Prop} {w w' : World} {t i : Nat} {v : Value} (hf : Fr S w w') (ht : ¬ S t) (hc : w.cell? ⟨t, i, none⟩ = some v) : w'.cell? ⟨t, i, none⟩ = some v :=
  (World.cell?_of_block (hf.block t (World.block_lt_of_cell? w ⟨t, i, none⟩ hc) ht)).trans hc
set_option maxRecDepth 100000 in
set_option maxHeartbeats 4000000 in
theorem step_put (K N : Int) (A : Option Addr) (c : Nat) (bs : List Int) {w0 w : World} {g ch r W : Nat} {nx : Int} {ms : List (List Int)} {sd al : Nat} (h : J w0 (fun _ => True) w g ch r W nx ms sd al nx ms sd al) (hC : (Kd.int .u8).C w0 A bs.length bs) (hc : bs.length ≤ c) (hl : bs.length ≤ 300) (hK : K % 5 = 0) :
    Calls Try.prog 19 #[.pointer (some ⟨g, 0, none⟩), .pointer (some ⟨r, 0, none⟩), .agg #[.int .i64 K, .int .i64 N, .slice A bs.length c]] w fun e w' => e = .returned (.bool true) ∧ Eq2 w0 w' g ch r W := by
  have H := Bx.mk (h.tight.grow (below_alloc (Below.refl _ w) (.cells #[.int .i64 K, .int .i64 N, .slice A bs.length c] 48)))
  have HBL := Bx.mk (Below.refl w.heap.size w)
  have hnew := heap_alloc_new w (.cells #[.int .i64 K, .int .i64 N, .slice A bs.length c] 48)
  have hbr := bring_c K 5 (w.alloc (.cells #[.int .i64 K, .int .i64 N, .slice A bs.length c] 48)) (by decide) (by decide)
  rw [hK] at hbr
  have HC := Bx.mk hC
  have HCC := Bx.mk hc
  have HL := Bx.mk hl
  have HSZ := Bx.mk (show w.heap.size < (w.alloc (.cells #[.int .i64 K, .int .i64 N, .slice A bs.length c] 48)).heap.size by simp)
  have HRL := Bx.mk h.below.size
  clear h hC hc hl hK
  go_enter Try.func19, Try.ntmps19
  go_wp2_with fail
  refine hbr.mono ?_
  rintro e _ ⟨rfl, rfl⟩
  have c0 := cell_of_row _ w.heap.size 0 _ _ (0, 0) hnew
  have c1 := cell_of_row _ w.heap.size 1 _ _ (0, 0) hnew
  have c2 := cell_of_row _ w.heap.size 2 _ _ (0, 0) hnew
  clear hnew hbr c0
  generalize w.alloc (.cells #[.int .i64 K, .int .i64 N, .slice A bs.length c] 48) = w1 at *
  obtain ⟨T, hT⟩ : ∃ T, T = w.heap.size := ⟨_, rfl⟩
  rw [← hT] at c1 c2 HSZ HRL
  rw [← hT]
  have H1 : Bx (J w0 (fun k => k < T) w1 g ch r W nx ms sd al nx ms sd al) := ⟨by rw [hT]; exact H.out⟩
  clear H HBL hT
  have c1 : w1.cell? ⟨T, 1, none⟩ = some (.int .i64 N) := c1
  have c2 : w1.cell? ⟨T, 2, none⟩ = some (.slice A bs.length c) := c2
  clear c1
  go_wp2_with fail
  refine (copy_c A c bs _ (Kd.C_below HC.out H1.out.below) HCC.out (by have := HL.out; omega)).mono ?_
  rintro e w2 ⟨v, rfl, hr, hb⟩
  obtain ⟨A2, k2, rfl, hk2, hC2⟩ := Kd.R_reads hr
  have H2 := Bx.mk (H1.out.grow hb)
  have R2 := Bx.mk hr
  have C2 := Bx.mk hC2
  have HK2 := Bx.mk hk2
  have SZ2 := Bx.mk hb.size
  have c2' := pw_cell_below hb c2
  clear hr hb hC2 hk2 H1 c2
  go_wp2_with fail
  refine (j_put A2 bs k2 H2.out C2.out HK2.out).mono ?_
  rintro e w3 ⟨rfl, hj, hf⟩
  have H3 := Bx.mk hj
  have R3 := Bx.mk (R_fr R2.out hf (fun k hk => Nat.lt_trans hk HSZ.out))
  have RL := Bx.mk (Kd.R_lt R2.out)
  have c2 := cell_fr hf (Nat.lt_irrefl T) c2'
  clear hj hf H2 R2 C2 c2'
  have hpe : putE bs.length al ms.length = putE bs.length al ms.length := rfl
  generalize hpp : putE bs.length al ms.length = pe at *
  clear hpe
  have HPE := Bx.mk hpp
  clear hpp
  go_wp2_with fail
  by_cases h0 : bs.length = 0
  · have H0 := Bx.mk h0
    have C2 := Bx.mk c2
    obtain ⟨wo, hwo⟩ : ∃ wo : World, wo = w3 := ⟨_, rfl⟩
    have HW := Bx.mk hwo
    clear c2 h0
    rw [← hwo]
    clear hwo
    have h0 : (bs.length : Int) = 0 := by have := H0.out; omega
    go_loop [9] (fun v => v = .int .i64 0) (fun _ => 0)
    case atStart => rfl
    case round =>
      subst hrel
      have c2 : wo.cell? ⟨T, 2, none⟩ = some (.slice A bs.length c) := by rw [HW.out]; exact C2.out
      have H4 : Bx (J w0 (fun k => k < T ∨ w2.heap.size ≤ k) wo g ch r W nx (putL ms bs al) sd (putA ms bs al) nx ms sd al) := ⟨by rw [HW.out]; exact H3.out⟩
      have h1 : ¬ (0 : Int) < (bs.length : Int) := by omega
      clear h0
      go_wp2_with fail
      refine (j_rput A bs c H4.out (Kd.C_below HC.out H4.out.below) HCC.out).mono ?_
      rintro e w5 ⟨rfl, hj, hf⟩
      rw [HPE.out]
      have H5 := Bx.mk hj
      clear hj hf c2 H4
      go_wp2_with fail
      go_ret
      exact ⟨by simp, H5.out.eq2⟩
  · obtain ⟨q, hq⟩ : ∃ q, A2 = some ⟨q, 0, none⟩ := by
      obtain ⟨q, cap, e, _⟩ := Kd.R_form R3.out (by omega)
      injection e with e1 _ _
      exact ⟨q, e1⟩
    subst hq
    have HQ := Bx.mk (And.intro (Kd.R_base R3.out q rfl) (RL.out q rfl))
    have C2 := Bx.mk c2
    clear c2 RL
    go_loopw [9] (fun v wr => ∃ (k : Nat) (ys : List Int), k ≤ bs.length ∧ v = .int .i64 (k : Int) ∧ Bx ((Kd.int .u8).R 5 wr w1.heap.size (fun _ => True) (.slice (some ⟨q, 0, none⟩) bs.length k2) ys) ∧ Bx (Fr (fun j => j = q) w3 wr)) (fun v _ => bs.length - (intOf v).toNat)
    case atStart => exact ⟨0, bs, by omega, rfl, R3, ⟨Fr.refl _ _⟩⟩
    case round =>
      clear R3
      obtain ⟨k, ys, hk, rfl, HR, HF⟩ := hrel
      have k0 : (0 : Int) ≤ (k : Int) := by omega
      by_cases hkn : k < bs.length
      · have k1 : (k : Int) < (bs.length : Int) := by omega
        have HKN := Bx.mk hkn
        have hce := Kd.R_celln (0 : Int) HR.out (k : Int) k0 k1
        rw [show (k : Int).toNat = k from by omega] at hce
        obtain ⟨ce, fe⟩ := hce
        obtain ⟨x, hx⟩ : ∃ x, x = rdOf (0 : Int) ys (k : Int) := ⟨_, rfl⟩
        rw [← hx] at ce
        clear hk hkn hx h0
        go_wp2_with fail
        have hR1 := Kd.R_putn HR.out (k : Int) (bits BinOp.xor IntKind.u8 x 90)
        rw [show (k : Int).toNat = k from by omega] at hR1
        have hF1 := HF.out.trans (Fr.set (fun j => j = q) wr q k (.int .u8 (bits BinOp.xor IntKind.u8 x 90)) rfl)
        have hwk : wrap64 ((k : Int) + 1) = ((k + 1 : Nat) : Int) := by have h1 := HKN.out; have h2 := HL.out; unfold wrap64; omega
        clear ce fe
        go_roundw
        case rel => exact ⟨k + 1, _, HKN.out, by rw [hwk], ⟨hR1⟩, ⟨hF1⟩⟩
        case measure => rw [hwk]; have := HKN.out; simp only [intOf]; omega
      · obtain rfl : k = bs.length := by omega
        have h1 : ¬ (bs.length : Int) < (bs.length : Int) := by omega
        have hq2 := HQ.out
        have H4 := Bx.mk (H3.out.kept HF.out (fun j e => by
          have e' : j = q := e
          have h3 := HSZ.out
          have h4 := HRL.out
          subst e'
          exact ⟨fun h => h.elim (fun h => by omega) (fun h => by omega), by omega⟩))
        have c2 := cell_fr HF.out (t := T) (fun e => by have e' : T = q := e; have h3 := HSZ.out; omega) C2.out
        clear hq2 hk k0 h0
        go_wp2_with fail
        refine (j_rput A bs c H4.out (Kd.C_below HC.out H4.out.below) HCC.out).mono ?_
        rintro e w5 ⟨rfl, hj, hf⟩
        rw [HPE.out]
        have H5 := Bx.mk hj
        clear hj hf c2 H4
        go_wp2_with fail
        go_ret
        exact ⟨by simp, H5.out.eq2⟩
set_option maxRecDepth 100000 in
set_option maxHeartbeats 4000000 in
theorem step_fresh (K N : Int) (A : Option Addr) (c : Nat) (bs : List Int) {w0 w : World} {g ch r W : Nat} {nx : Int} {ms : List (List Int)} {sd al : Nat} (h : J w0 (fun _ => True) w g ch r W nx ms sd al nx ms sd al) (hC : (Kd.int .u8).C w0 A bs.length bs) (hc : bs.length ≤ c) (hl : bs.length ≤ 300) (hK : K % 5 = 1) :
    Calls Try.prog 19 #[.pointer (some ⟨g, 0, none⟩), .pointer (some ⟨r, 0, none⟩), .agg #[.int .i64 K, .int .i64 N, .slice A bs.length c]] w fun e w' => e = .returned (.bool true) ∧ Eq2 w0 w' g ch r W := by
  have H := Bx.mk (h.tight.grow (below_alloc (Below.refl _ w) (.cells #[.int .i64 K, .int .i64 N, .slice A bs.length c] 48)))
  have HBL := Bx.mk (Below.refl w.heap.size w)
  have hnew := heap_alloc_new w (.cells #[.int .i64 K, .int .i64 N, .slice A bs.length c] 48)
  have hbr := bring_c K 5 (w.alloc (.cells #[.int .i64 K, .int .i64 N, .slice A bs.length c] 48)) (by decide) (by decide)
  rw [hK] at hbr
  have HC := Bx.mk hC
  have HCC := Bx.mk hc
  have HL := Bx.mk hl
  have HSZ := Bx.mk (show w.heap.size < (w.alloc (.cells #[.int .i64 K, .int .i64 N, .slice A bs.length c] 48)).heap.size by simp)
  have HRL := Bx.mk h.below.size
  clear h hC hc hl hK
  go_enter Try.func19, Try.ntmps19
  go_wp2_with fail
  refine hbr.mono ?_
  rintro e _ ⟨rfl, rfl⟩
  have c0 := cell_of_row _ w.heap.size 0 _ _ (0, 0) hnew
  have c1 := cell_of_row _ w.heap.size 1 _ _ (0, 0) hnew
  have c2 := cell_of_row _ w.heap.size 2 _ _ (0, 0) hnew
  clear hnew hbr c0
  generalize w.alloc (.cells #[.int .i64 K, .int .i64 N, .slice A bs.length c] 48) = w1 at *
  obtain ⟨T, hT⟩ : ∃ T, T = w.heap.size := ⟨_, rfl⟩
  rw [← hT] at c1 c2 HSZ HRL
  rw [← hT]
  have H1 : Bx (J w0 (fun k => k < T) w1 g ch r W nx ms sd al nx ms sd al) := ⟨by rw [hT]; exact H.out⟩
  clear H HBL hT
  have c1 : w1.cell? ⟨T, 1, none⟩ = some (.int .i64 N) := c1
  have c2 : w1.cell? ⟨T, 2, none⟩ = some (.slice A bs.length c) := c2
  clear c1 c2
  go_wp2_with fail
  refine (j_fresh H1.out).mono ?_
  rintro e w2 ⟨v, rfl, hr, hj, hf⟩
  have HW4 := Bx.mk (j_four H1.out).2.1
  have HIS := Bx.mk (items_short (nx := nx) (a := sd) (n := min W ms.length - sd) (j_hm H1.out))
  have hlen := items_len nx ms sd (min W ms.length - sd)
  obtain ⟨xs, hxs⟩ : ∃ xs, xs = items nx ms sd (min W ms.length - sd) := ⟨_, rfl⟩
  rw [← hxs] at hr hlen HIS
  have HX := Bx.mk hxs
  have HXL := Bx.mk (show xs.length ≤ 4 by have := HW4.out; omega)
  obtain ⟨A2, k2, rfl, hk2, _⟩ := Kd.R_reads hr
  have H2 := Bx.mk hj
  have R2 := Bx.mk hr
  have HK2 := Bx.mk hk2
  clear hr hj hf hk2 H1 hxs hlen
  go_wp2_with fail
  refine (j_rfresh H2.out).mono ?_
  rintro e w3 ⟨v, rfl, hr, hj, hf⟩
  rw [← HX.out] at hr
  have H3 := Bx.mk hj
  have R3 := Bx.mk (R_fr R2.out hf (fun k hk => Nat.lt_trans hk HSZ.out))
  obtain ⟨A3, k3, rfl, hk3, hC3⟩ := Kd.R_reads hr
  obtain ⟨_, _, hC2⟩ := Kd.R_reads' R3.out
  have HS := Bx.mk (same_c A2 k2 A3 k3 xs w3 hC2 HK2.out hC3 hk3 (by have := HXL.out; omega))
  clear hr hj hf H2 R2 hC2 hC3 hk3
  go_wp2_with fail
  refine HS.out.mono ?_
  rintro e _ ⟨rfl, ⟨nd, rfl⟩⟩
  have H4 := Bx.mk (H3.out.grow (pw_below_drewN (Below.refl _ w3) nd))
  have R4 := Bx.mk (Kd.R_drewN R3.out nd)
  clear H3 R3 HS
  generalize w3.drewN nd = w4 at *
  go_wp2_with fail
  by_cases h0 : xs.length = 0
  · have H0 := Bx.mk h0
    obtain ⟨wo, hwo⟩ : ∃ wo : World, wo = w4 := ⟨_, rfl⟩
    have HW := Bx.mk hwo
    clear h0
    rw [← hwo]
    clear hwo
    have h0 : (xs.length : Int) = 0 := by have := H0.out; omega
    go_loop [12] (fun v => v = .int .i64 0) (fun _ => 0)
    case atStart => rfl
    case round =>
      subst hrel
      have h1 : ¬ (0 : Int) < (xs.length : Int) := by omega
      clear h0
      go_wp2_with fail
      go_ret
      exact ⟨rfl, by rw [HW.out]; exact H4.out.eq2⟩
  · obtain ⟨p, hp⟩ : ∃ p, A2 = some ⟨p, 0, none⟩ := by
      obtain ⟨q, cap, e, _⟩ := Kd.R_form R4.out (by omega)
      injection e with e1 _ _
      exact ⟨q, e1⟩
    subst hp
    have HP := Bx.mk (Kd.R_base R4.out p rfl)
    have X4 := Bx.mk (XS.of_R R4.out HIS.out (by omega))
    clear R4 h0
    obtain ⟨n, hn⟩ : ∃ n, n = xs.length := ⟨_, rfl⟩
    rw [← hn] at HXL X4 HK2
    rw [← hn]
    clear hn
    go_loopw [12] (fun v wr => ∃ i : Nat, i ≤ n ∧ v = .int .i64 (i : Int) ∧ Bx (XS wr w1.heap.size p n) ∧ Bx (Fr (fun j => w1.heap.size ≤ j) w4 wr)) (fun v _ => n - (intOf v).toNat)
    case atStart => exact ⟨0, by omega, rfl, X4, ⟨Fr.refl _ _⟩⟩
    case round =>
      clear X4
      obtain ⟨i, hi, rfl, HXS, HF⟩ := hrel
      have i0 : (0 : Int) ≤ (i : Int) := by omega
      by_cases hin : i < n
      · have i1 : (i : Int) < (n : Int) := by omega
        have HIN := Bx.mk hin
        obtain ⟨s, Ai, m, ci, d0, d1, hmc, hm3, hq⟩ := HXS.out.one i hin
        have f0 := HXS.out.fz (i * 2)
        clear hin hi d1 hq
        go_wp2_with fail
        clear d0 f0 hmc hm3
        have HX5 := Bx.mk (HXS.out.seq i (-1) HIN.out)
        have HF5 := Bx.mk (HF.out.trans (Fr.set (fun j => w1.heap.size ≤ j) wr p (i * 2) (.int .i64 (-1)) HP.out))
        clear HXS HF
        generalize wr.setCell ⟨p, i * 2, none⟩ (.int .i64 (-1)) = w5 at *
        clear s Ai m ci
        obtain ⟨s, Ai, m, ci, d0, d1, hmc, hm3, hq⟩ := HX5.out.one i HIN.out
        have HMC := Bx.mk (And.intro hmc hm3)
        have D1 := Bx.mk d1
        clear d0 hq hmc hm3 d1
        go_loopw [13] (fun v wq => ∃ k : Nat, k ≤ m ∧ v = .int .i64 (k : Int) ∧ Bx (XS wq w1.heap.size p n) ∧ Bx (wq.cell? ⟨p, i * 2 + 1, none⟩ = some (.slice Ai m ci)) ∧ Bx (Fr (fun j => w1.heap.size ≤ j) w4 wq)) (fun v _ => m - (intOf v).toNat)
        case atStart => exact ⟨0, by omega, rfl, HX5, D1, HF5⟩
        case round =>
          clear HX5 D1 HF5
          obtain ⟨k, hk, rfl, HXS, HD, HF⟩ := hrel
          have k0 : (0 : Int) ≤ (k : Int) := by omega
          have d1 := HD.out
          by_cases hkm : k < m
          · have k1 : (k : Int) < (m : Int) := by omega
            have HKM := Bx.mk hkm
            obtain ⟨_, A9, m9, c9, _, e1, _, _, hq⟩ := HXS.out.one i HIN.out
            rw [d1] at e1
            injection e1 with e1
            injection e1 with e2 e3 e4
            subst e2
            subst e3
            subst e4
            obtain ⟨q, rfl, hqb, hqp, hqc⟩ := hq (by omega)
            obtain ⟨⟨x, ce⟩, fe⟩ := hqc k hkm
            have HQ := Bx.mk (And.intro hqb hqp)
            clear hkm hk hqb hqp hqc hq
            go_wp2_with fail
            go_region
            all_goals
              have hX6 := (HXS.out.byte q k x (bits BinOp.xor IntKind.u8 x 51) HQ.out.2 ce).drew
              have hD6 : (wr.setCell ⟨q, k, none⟩ (.int .u8 (bits BinOp.xor IntKind.u8 x 51))).drew.cell? ⟨p, i * 2 + 1, none⟩ = some (.slice (some ⟨q, 0, none⟩) m ci) := cell_far (w := wr) (addr_blk HQ.out.2) d1
              have hF6 := (HF.out.trans (Fr.set (fun j => w1.heap.size ≤ j) wr q k (.int .u8 (bits BinOp.xor IntKind.u8 x 51)) HQ.out.1)).trans (Fr.of_below (below_drew (Below.refl _ _)))
              clear ce fe d1
              generalize (wr.setCell ⟨q, k, none⟩ (.int .u8 (bits BinOp.xor IntKind.u8 x 51))).drew = w7 at *
              have HX7 := Bx.mk hX6
              have HD7 := Bx.mk hD6
              have HF7 := Bx.mk hF6
              clear hX6 hD6 hF6
              go_wp2_with fail
              have hwk : wrap64 ((k : Int) + 1) = ((k + 1 : Nat) : Int) := by have h1 := HKM.out; have h2 := HMC.out.2; unfold wrap64; omega
              try rw [hwk]
              go_roundw
              case rel => exact ⟨k + 1, HKM.out, by first | rfl | simp, HX7, HD7, HF7⟩
              case measure => have := HKM.out; simp only [intOf]; omega
          · obtain rfl : k = m := by omega
            have k1 : ¬ (k : Int) < (k : Int) := by omega
            clear hk hkm
            go_wp2_with fail
            have hwk : wrap64 ((i : Int) + 1) = ((i + 1 : Nat) : Int) := by have h1 := HIN.out; have h2 := HXL.out; unfold wrap64; omega
            rw [hwk]
            go_roundw
            case rel => exact ⟨i + 1, HIN.out, rfl, HXS, HF⟩
            case measure => have := HIN.out; simp only [intOf]; omega
      · obtain rfl : i = n := by omega
        have i1 : ¬ (i : Int) < (i : Int) := by omega
        go_wp2_with fail
        go_ret
        exact ⟨rfl, (H4.out.kept HF.out (fun j hj => by
          have h1 := HSZ.out
          have h2 := HRL.out
          exact ⟨fun h => by omega, by omega⟩)).eq2⟩
set_option maxRecDepth 100000 in
set_option maxHeartbeats 4000000 in
theorem step_again (K N : Int) (A : Option Addr) (c : Nat) (bs : List Int) {w0 w : World} {g ch r W : Nat} {nx : Int} {ms : List (List Int)} {sd al : Nat} (h : J w0 (fun _ => True) w g ch r W nx ms sd al nx ms sd al) (hC : (Kd.int .u8).C w0 A bs.length bs) (hc : bs.length ≤ c) (hl : bs.length ≤ 300) (hK : K % 5 = 2) :
    Calls Try.prog 19 #[.pointer (some ⟨g, 0, none⟩), .pointer (some ⟨r, 0, none⟩), .agg #[.int .i64 K, .int .i64 N, .slice A bs.length c]] w fun e w' => e = .returned (.bool true) ∧ Eq2 w0 w' g ch r W := by
  have H := Bx.mk (h.tight.grow (below_alloc (Below.refl _ w) (.cells #[.int .i64 K, .int .i64 N, .slice A bs.length c] 48)))
  have HBL := Bx.mk (Below.refl w.heap.size w)
  have hnew := heap_alloc_new w (.cells #[.int .i64 K, .int .i64 N, .slice A bs.length c] 48)
  have hbr := bring_c K 5 (w.alloc (.cells #[.int .i64 K, .int .i64 N, .slice A bs.length c] 48)) (by decide) (by decide)
  rw [hK] at hbr
  have HC := Bx.mk hC
  have HCC := Bx.mk hc
  have HL := Bx.mk hl
  have HSZ := Bx.mk (show w.heap.size < (w.alloc (.cells #[.int .i64 K, .int .i64 N, .slice A bs.length c] 48)).heap.size by simp)
  have HRL := Bx.mk h.below.size
  clear h hC hc hl hK
  go_enter Try.func19, Try.ntmps19
  go_wp2_with fail
  refine hbr.mono ?_
  rintro e _ ⟨rfl, rfl⟩
  have c0 := cell_of_row _ w.heap.size 0 _ _ (0, 0) hnew
  have c1 := cell_of_row _ w.heap.size 1 _ _ (0, 0) hnew
  have c2 := cell_of_row _ w.heap.size 2 _ _ (0, 0) hnew
  clear hnew hbr c0
  generalize w.alloc (.cells #[.int .i64 K, .int .i64 N, .slice A bs.length c] 48) = w1 at *
  obtain ⟨T, hT⟩ : ∃ T, T = w.heap.size := ⟨_, rfl⟩
  rw [← hT] at c1 c2 HSZ HRL
  rw [← hT]
  have H1 : Bx (J w0 (fun k => k < T) w1 g ch r W nx ms sd al nx ms sd al) := ⟨by rw [hT]; exact H.out⟩
  clear H HBL hT
  have c1 : w1.cell? ⟨T, 1, none⟩ = some (.int .i64 N) := c1
  have c2 : w1.cell? ⟨T, 2, none⟩ = some (.slice A bs.length c) := c2
  clear c1 c2
  go_wp2_with fail
  refine (j_again H1.out).mono ?_
  rintro e w2 ⟨v, rfl, hr, hb⟩
  obtain ⟨A2, k2, rfl, hk2, _⟩ := Kd.R_reads hr
  have H2 := Bx.mk (H1.out.grow hb)
  have R2 := Bx.mk hr
  have S4 := Bx.mk (j_four H1.out)
  clear hr hb H1
  go_wp2_with fail
  refine (j_ragain H2.out).mono ?_
  rintro e w3 ⟨v, rfl, hr, hb⟩
  have H3 := Bx.mk (H2.out.grow hb)
  have R3 := Bx.mk (Kd.R_below R2.out hb)
  obtain ⟨A3, k3, rfl, hk3, hC3⟩ := Kd.R_reads hr
  obtain ⟨_, _, hC2⟩ := Kd.R_reads' R3.out
  have HS := Bx.mk (same_c A2 k2 A3 k3 (items nx ms 0 sd) w3 hC2 hk2 hC3 hk3 (by rw [items_len]; have := S4.out; omega))
  clear hr hb H2 R2 hC2 hC3
  go_wp2_with fail
  refine HS.out.mono ?_
  rintro e _ ⟨rfl, ⟨nd, rfl⟩⟩
  have H4 := Bx.mk (H3.out.grow (pw_below_drewN (Below.refl _ w3) nd))
  go_wp2_with fail
  go_ret
  exact ⟨rfl, H4.out.eq2⟩
set_option maxRecDepth 100000 in
set_option maxHeartbeats 4000000 in
theorem step_heard (K N : Int) (A : Option Addr) (c : Nat) (bs : List Int) {w0 w : World} {g ch r W : Nat} {nx : Int} {ms : List (List Int)} {sd al : Nat} (h : J w0 (fun _ => True) w g ch r W nx ms sd al nx ms sd al) (hC : (Kd.int .u8).C w0 A bs.length bs) (hc : bs.length ≤ c) (hl : bs.length ≤ 300) (hK : K % 5 = 3) :
    Calls Try.prog 19 #[.pointer (some ⟨g, 0, none⟩), .pointer (some ⟨r, 0, none⟩), .agg #[.int .i64 K, .int .i64 N, .slice A bs.length c]] w fun e w' => e = .returned (.bool true) ∧ Eq2 w0 w' g ch r W := by
  have H := Bx.mk (h.tight.grow (below_alloc (Below.refl _ w) (.cells #[.int .i64 K, .int .i64 N, .slice A bs.length c] 48)))
  have HBL := Bx.mk (Below.refl w.heap.size w)
  have hnew := heap_alloc_new w (.cells #[.int .i64 K, .int .i64 N, .slice A bs.length c] 48)
  have hbr := bring_c K 5 (w.alloc (.cells #[.int .i64 K, .int .i64 N, .slice A bs.length c] 48)) (by decide) (by decide)
  rw [hK] at hbr
  have HC := Bx.mk hC
  have HCC := Bx.mk hc
  have HL := Bx.mk hl
  have HSZ := Bx.mk (show w.heap.size < (w.alloc (.cells #[.int .i64 K, .int .i64 N, .slice A bs.length c] 48)).heap.size by simp)
  have HRL := Bx.mk h.below.size
  clear h hC hc hl hK
  go_enter Try.func19, Try.ntmps19
  go_wp2_with fail
  refine hbr.mono ?_
  rintro e _ ⟨rfl, rfl⟩
  have c0 := cell_of_row _ w.heap.size 0 _ _ (0, 0) hnew
  have c1 := cell_of_row _ w.heap.size 1 _ _ (0, 0) hnew
  have c2 := cell_of_row _ w.heap.size 2 _ _ (0, 0) hnew
  clear hnew hbr c0
  generalize w.alloc (.cells #[.int .i64 K, .int .i64 N, .slice A bs.length c] 48) = w1 at *
  obtain ⟨T, hT⟩ : ∃ T, T = w.heap.size := ⟨_, rfl⟩
  rw [← hT] at c1 c2 HSZ HRL
  rw [← hT]
  have H1 : Bx (J w0 (fun k => k < T) w1 g ch r W nx ms sd al nx ms sd al) := ⟨by rw [hT]; exact H.out⟩
  clear H HBL hT
  have c1 : w1.cell? ⟨T, 1, none⟩ = some (.int .i64 N) := c1
  have c2 : w1.cell? ⟨T, 2, none⟩ = some (.slice A bs.length c) := c2
  go_wp2_with fail
  refine (j_heard N H1.out).mono ?_
  rintro e w2 ⟨rfl, hj, hf⟩
  have H2 := Bx.mk hj
  have c1' := cell_fr hf (Nat.lt_irrefl T) c1
  clear hj hf H1 c1 c2
  have c1 := c1'
  clear c1'
  go_wp2_with fail
  refine (j_rheard N H2.out).mono ?_
  rintro e w3 ⟨rfl, hj, hf⟩
  have H3 := Bx.mk hj
  clear hj hf H2 c1
  go_wp2_with fail
  go_ret
  exact ⟨rfl, H3.out.eq2⟩
set_option maxRecDepth 100000 in
set_option maxHeartbeats 4000000 in
theorem step_next (K N : Int) (A : Option Addr) (c : Nat) (bs : List Int) {w0 w : World} {g ch r W : Nat} {nx : Int} {ms : List (List Int)} {sd al : Nat} (h : J w0 (fun _ => True) w g ch r W nx ms sd al nx ms sd al) (hC : (Kd.int .u8).C w0 A bs.length bs) (hc : bs.length ≤ c) (hl : bs.length ≤ 300) (hK : K % 5 = 4) :
    Calls Try.prog 19 #[.pointer (some ⟨g, 0, none⟩), .pointer (some ⟨r, 0, none⟩), .agg #[.int .i64 K, .int .i64 N, .slice A bs.length c]] w fun e w' => e = .returned (.bool true) ∧ Eq2 w0 w' g ch r W := by
  have H := Bx.mk (h.tight.grow (below_alloc (Below.refl _ w) (.cells #[.int .i64 K, .int .i64 N, .slice A bs.length c] 48)))
  have HBL := Bx.mk (Below.refl w.heap.size w)
  have hnew := heap_alloc_new w (.cells #[.int .i64 K, .int .i64 N, .slice A bs.length c] 48)
  have hbr := bring_c K 5 (w.alloc (.cells #[.int .i64 K, .int .i64 N, .slice A bs.length c] 48)) (by decide) (by decide)
  rw [hK] at hbr
  have HC := Bx.mk hC
  have HCC := Bx.mk hc
  have HL := Bx.mk hl
  have HSZ := Bx.mk (show w.heap.size < (w.alloc (.cells #[.int .i64 K, .int .i64 N, .slice A bs.length c] 48)).heap.size by simp)
  have HRL := Bx.mk h.below.size
  clear h hC hc hl hK
  go_enter Try.func19, Try.ntmps19
  go_wp2_with fail
  refine hbr.mono ?_
  rintro e _ ⟨rfl, rfl⟩
  have c0 := cell_of_row _ w.heap.size 0 _ _ (0, 0) hnew
  have c1 := cell_of_row _ w.heap.size 1 _ _ (0, 0) hnew
  have c2 := cell_of_row _ w.heap.size 2 _ _ (0, 0) hnew
  clear hnew hbr c0
  generalize w.alloc (.cells #[.int .i64 K, .int .i64 N, .slice A bs.length c] 48) = w1 at *
  obtain ⟨T, hT⟩ : ∃ T, T = w.heap.size := ⟨_, rfl⟩
  rw [← hT] at c1 c2 HSZ HRL
  rw [← hT]
  have H1 : Bx (J w0 (fun k => k < T) w1 g ch r W nx ms sd al nx ms sd al) := ⟨by rw [hT]; exact H.out⟩
  clear H HBL hT
  have c1 : w1.cell? ⟨T, 1, none⟩ = some (.int .i64 N) := c1
  have c2 : w1.cell? ⟨T, 2, none⟩ = some (.slice A bs.length c) := c2
  obtain ⟨m6, hm6⟩ : ∃ m6 : Int, m6 = N % 6 := ⟨_, rfl⟩
  have p0 : 0 ≤ m6 := by omega
  have p1 : m6 < 6 := by omega
  have hbr : ∀ w, Calls Try.prog 8 #[.int .i64 N, .int .i64 6] w fun e w' => e = .returned (.int .i64 m6) ∧ w' = w := fun w => (bring_c N 6 w (by decide) (by decide)).mono fun _ _ h => ⟨by rw [hm6]; exact h.1, h.2.symm⟩
  have hnx : ∀ n, Calls Try.prog 22 #[.pointer (some ⟨r, 0, none⟩)] (w1.drewN n) fun e w' => e = .returned (.int .i64 nx) ∧ w' = w1.drewN n := fun n => (j_rnext (H1.out.grow (pw_below_drewN (Below.refl _ w1) n))).mono fun _ _ h => ⟨h.1, h.2.symm⟩
  have n0 := (j_nx H1.out).1
  have n1 := (j_nx H1.out).2
  have w1' : IntKind.i64.wrap (nx + m6) = nx + m6 := by simp [IntKind.wrap, IntKind.signed, IntKind.bits]; omega
  obtain ⟨ack, hack⟩ : ∃ ack : Int, Int.tmod (nx + m6) 65536 = ack := ⟨_, rfl⟩
  clear hm6 p0 p1 n0 n1
  go_wp2_with fail
  go_quiet (first | (go_at_call 22; exact Calls.quiet_of_same (hnx _)) | (go_at_call 8; exact Calls.quiet_of_same (hbr _)))
  clear hbr hnx
  have HQ := Bx.mk (H1.out.grow (pw_below_drewN (Below.refl _ w1) nq))
  clear H1 c1 c2
  generalize w1.drewN nq = w2 at *
  go_wp2_with fail
  refine (j_heard ack HQ.out).mono ?_
  rintro e w3 ⟨rfl, hj, hf⟩
  have H2 := Bx.mk hj
  clear hj hf HQ
  go_wp2_with fail
  refine (j_rheard ack H2.out).mono ?_
  rintro e w4 ⟨rfl, hj, hf⟩
  have H3 := Bx.mk hj
  clear hj hf H2
  go_wp2_with fail
  go_ret
  exact ⟨rfl, H3.out.eq2⟩
theorem step_c (K N : Int) (A : Option Addr) (c : Nat) (bs : List Int) {w0 w : World} {g ch r W : Nat} (h : Eq2 w0 w g ch r W) (hC : (Kd.int .u8).C w0 A bs.length bs) (hc : bs.length ≤ c) (hl : bs.length ≤ 300) :
    Calls Try.prog 19 #[.pointer (some ⟨g, 0, none⟩), .pointer (some ⟨r, 0, none⟩), .agg #[.int .i64 K, .int .i64 N, .slice A bs.length c]] w fun e w' => e = .returned (.bool true) ∧ Eq2 w0 w' g ch r W := by
  obtain ⟨nx, ms, sd, al, h⟩ := h
  have hk : K % 5 = 0 ∨ K % 5 = 1 ∨ K % 5 = 2 ∨ K % 5 = 3 ∨ K % 5 = 4 := by omega
  rcases hk with hk | hk | hk | hk | hk
  · exact step_put K N A c bs h hC hc hl hk
  · exact step_fresh K N A c bs h hC hc hl hk
  · exact step_again K N A c bs h hC hc hl hk
  · exact step_heard K N A c bs h hC hc hl hk
  · exact step_next K N A c bs h hC hc hl hk
end Go.Proofs.Ytbglagllgppggaa.Base
