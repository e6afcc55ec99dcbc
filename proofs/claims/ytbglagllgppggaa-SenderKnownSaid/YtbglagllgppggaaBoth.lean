/- Layer 13: the program's sender and the document's beside each other; each call by its contract. -/
import Derived.Test.YtbglagllgppggaaRitems
set_option linter.unusedVariables false
set_option linter.unusedSimpArgs false
namespace Go.Proofs.Ytbglagllgppggaa.Base
open Go.RowKit Go.Proofs.YtbglagllgppggaaW.PrintWords Go.Proofs.YtbglagllgppggaaW.PrintLast Go.Proofs.YtbglagllgppggaaW.PrintMore
open Go.Proofs.Ytbglagllgppggaa.Comm Go.Proofs.Ytbglagllgppggaa.PSenderPlays

/-- What Put tells, of a length, of how many there were in all and how many wait. -/
def putE (n al q : Nat) : Int := if n < 1 ∨ 256 < n then 2 else if 20000 ≤ al then 5 else if 512 ≤ q then 7 else 0
def putL (ms : List (List Int)) (bs : List Int) (al : Nat) : List (List Int) := if putE bs.length al ms.length = 0 then ms ++ [bs] else ms
def putA (ms : List (List Int)) (bs : List Int) (al : Nat) : Nat := if putE bs.length al ms.length = 0 then al + 1 else al
/-- What Heard tells. -/
def hok (nx ack : Int) (sd : Nat) : Bool := decide (0 ≤ ack ∧ ack ≤ 65535 ∧ (ack - nx) % 65536 ≤ sd)
def hn (nx ack : Int) (sd : Nat) : Nat := if hok nx ack sd = true then ((ack - nx) % 65536).toNat else 0
def hcd (nx ack : Int) (sd : Nat) : Int := if hok nx ack sd = true then 0 else 9
def hx (nx ack : Int) (sd : Nat) : Int := if hok nx ack sd = true then ack else nx

/-- Both senders, in blocks of which U is true, apart from each other. -/
structure JM (w0 : World) (U : Nat → Prop) (w : World) (g ch r W : Nat) (nx : Int) (ms : List (List Int)) (sd al : Nat) (nx' : Int) (ms' : List (List Int)) (sd' al' : Nat) (M N : Nat → Prop) : Prop where
  hs : SA w0.heap.size M w g ch W nx ms sd al
  hr : RA w0.heap.size N w r W nx' ms' sd' al'
  mn : ∀ k, M k → ¬ N k
  mr : ¬ M r
  ng : ¬ N g
  nc : ¬ N ch
  rg : r ≠ g
  rc : r ≠ ch
  mU : ∀ k, M k → U k
  nU : ∀ k, N k → U k
  gU : U g
  cU : U ch
  rU : U r
  hb : Below w0.heap.size w0 w
def J (w0 : World) (U : Nat → Prop) (w : World) (g ch r W : Nat) (nx : Int) (ms : List (List Int)) (sd al : Nat) (nx' : Int) (ms' : List (List Int)) (sd' al' : Nat) : Prop := ∃ M N, JM w0 U w g ch r W nx ms sd al nx' ms' sd' al' M N
section
variable {w0 w w' : World} {U U' : Nat → Prop} {g ch r W : Nat} {nx : Int} {ms : List (List Int)} {sd al : Nat} {nx' : Int} {ms' : List (List Int)} {sd' al' : Nat}
theorem J.below (h : J w0 U w g ch r W nx ms sd al nx' ms' sd' al') : Below w0.heap.size w0 w := by
  obtain ⟨M, N, h⟩ := h; exact h.hb
theorem J.mono (h : J w0 U w g ch r W nx ms sd al nx' ms' sd' al') (hU : ∀ k, U k → U' k) : J w0 U' w g ch r W nx ms sd al nx' ms' sd' al' := by
  obtain ⟨M, N, h⟩ := h
  exact ⟨M, N, { h with mU := fun k hk => hU k (h.mU k hk), nU := fun k hk => hU k (h.nU k hk), gU := hU _ h.gU, cU := hU _ h.cU, rU := hU _ h.rU }⟩
theorem J.tight (h : J w0 U w g ch r W nx ms sd al nx' ms' sd' al') : J w0 (fun k => k < w.heap.size) w g ch r W nx ms sd al nx' ms' sd' al' := by
  obtain ⟨M, N, h⟩ := h
  exact ⟨_, _, { h with hs := h.hs.tight, hr := h.hr.tight, mn := fun k hk hk' => h.mn k hk.1 hk'.1, mr := fun hk => h.mr hk.1, ng := fun hk => h.ng hk.1, nc := fun hk => h.nc hk.1, mU := fun k hk => hk.2, nU := fun k hk => hk.2, gU := h.hs.glt, cU := h.hs.clt, rU := h.hr.rlt }⟩
/-- What lies elsewhere may turn. -/
theorem J.kept (h : J w0 U w g ch r W nx ms sd al nx' ms' sd' al') {S : Nat → Prop} (hf : Fr S w w') (hS : ∀ k, S k → ¬ U k ∧ w0.heap.size ≤ k) : J w0 U w' g ch r W nx ms sd al nx' ms' sd' al' := by
  obtain ⟨M, N, h⟩ := h
  have hk : ∀ k, k < w.heap.size → U k → w'.heap[k]? = w.heap[k]? := fun k hk hu => hf.block k hk (fun hs => (hS k hs).1 hu)
  exact ⟨M, N, { h with hs := h.hs.kept (fun k hl hk' => hk k hl (hk'.elim (h.mU k) (fun e => e.elim (fun e => e ▸ h.gU) (fun e => e ▸ h.cU)))), hr := h.hr.kept (fun k hl hk' => hk k hl (hk'.elim (h.nU k) (fun e => e ▸ h.rU))), hb := hf.below h.hb h.hb.size (fun k hk => (hS k hk).2) }⟩
theorem J.grow (h : J w0 U w g ch r W nx ms sd al nx' ms' sd' al') (hb : Below w.heap.size w w') : J w0 U w' g ch r W nx ms sd al nx' ms' sd' al' :=
  h.kept (S := fun _ => False) ⟨hb.os, hb.tape, hb.output, hb.size, fun k hk _ => hb.block k hk⟩ (fun _ h => h.elim)
theorem JM.sstep {M N M' : Nat → Prop} {nx1 : Int} {ms1 : List (List Int)} {sd1 al1 : Nat} (h : JM w0 U w g ch r W nx ms sd al nx' ms' sd' al' M N) (hs : SA w0.heap.size M' w' g ch W nx1 ms1 sd1 al1) (hM : ∀ k, M' k → M k ∨ w.heap.size ≤ k) (hU : ∀ k, U k → U' k) (hM' : ∀ k, M' k → U' k) (hf : Fr (fun k => M k ∨ k = g ∨ k = ch) w w') :
    J w0 U' w' g ch r W nx1 ms1 sd1 al1 nx' ms' sd' al' := by
  have hrt := h.hr.tight
  refine ⟨M', fun k => N k ∧ k < w.heap.size, ?_⟩
  exact { hs := hs
          hr := hrt.kept (fun k hl hk => hf.block k hl (fun hS => by
            rcases hk with hk | rfl
            · rcases hS with a | rfl | rfl
              · exact h.mn k a hk.1
              · exact h.ng hk.1
              · exact h.nc hk.1
            · rcases hS with a | a | a
              · exact h.mr a
              · exact h.rg a
              · exact h.rc a))
          mn := fun k hk hk' => by
            rcases hM k hk with a | a
            · exact h.mn k a hk'.1
            · have := hk'.2; omega
          mr := fun hk => by
            rcases hM r hk with a | a
            · exact h.mr a
            · have := h.hr.rlt; omega
          ng := fun hk => h.ng hk.1
          nc := fun hk => h.nc hk.1
          rg := h.rg
          rc := h.rc
          mU := hM'
          nU := fun k hk => hU k (h.nU k hk.1)
          gU := hU _ h.gU
          cU := hU _ h.cU
          rU := hU _ h.rU
          hb := hf.below h.hb h.hb.size (fun k hk => by
            rcases hk with a | rfl | rfl
            · exact h.hs.bM k a
            · exact h.hs.bg
            · exact h.hs.bc) }
theorem JM.rstep {M N N' : Nat → Prop} {nx1 : Int} {ms1 : List (List Int)} {sd1 al1 : Nat} (h : JM w0 U w g ch r W nx ms sd al nx' ms' sd' al' M N) (hs : RA w0.heap.size N' w' r W nx1 ms1 sd1 al1) (hN : ∀ k, N' k → N k ∨ w.heap.size ≤ k) (hU : ∀ k, U k → U' k) (hN' : ∀ k, N' k → U' k) (hf : Fr (fun k => N k ∨ k = r) w w') :
    J w0 U' w' g ch r W nx ms sd al nx1 ms1 sd1 al1 := by
  have hrt := h.hs.tight
  refine ⟨fun k => M k ∧ k < w.heap.size, N', ?_⟩
  exact { hr := hs
          hs := hrt.kept (fun k hl hk => hf.block k hl (fun hS => by
            rcases hk with hk | rfl | rfl
            · rcases hS with a | rfl
              · exact h.mn k hk.1 a
              · exact h.mr hk.1
            · rcases hS with a | a
              · exact h.ng a
              · exact h.rg a.symm
            · rcases hS with a | a
              · exact h.nc a
              · exact h.rc a.symm))
          mn := fun k hk hk' => by
            rcases hN k hk' with a | a
            · exact h.mn k hk.1 a
            · have := hk.2; omega
          mr := fun hk => h.mr hk.1
          ng := fun hk => by
            rcases hN g hk with a | a
            · exact h.ng a
            · have := h.hs.glt; omega
          nc := fun hk => by
            rcases hN ch hk with a | a
            · exact h.nc a
            · have := h.hs.clt; omega
          rg := h.rg
          rc := h.rc
          mU := fun k hk => hU k (h.mU k hk.1)
          nU := hN'
          gU := hU _ h.gU
          cU := hU _ h.cU
          rU := hU _ h.rU
          hb := hf.below h.hb h.hb.size (fun k hk => by
            rcases hk with a | rfl
            · exact h.hr.bM k a
            · exact h.hr.br) }
theorem JM.frs {M N : Nat → Prop} (h : JM w0 U w g ch r W nx ms sd al nx' ms' sd' al' M N) (hf : Fr (fun k => M k ∨ k = g ∨ k = ch) w w') : Fr U w w' := hf.mono (fun k hk => hk.elim (h.mU k) (fun e => e.elim (fun e => e ▸ h.gU) (fun e => e ▸ h.cU)))
theorem JM.frr {M N : Nat → Prop} (h : JM w0 U w g ch r W nx ms sd al nx' ms' sd' al' M N) (hf : Fr (fun k => N k ∨ k = r) w w') : Fr U w w' := hf.mono (fun k hk => hk.elim (h.nU k) (fun e => e ▸ h.rU))
theorem j_left (h : J w0 U w g ch r W nx ms sd al nx' ms' sd' al') : Calls Try.prog 15 #[.pointer (some ⟨g, 0, none⟩)] w fun e w' => e = .returned (.int .i64 (ms.length : Int)) ∧ w = w' := by
  obtain ⟨M, N, h⟩ := h; exact left_c h.hs
theorem j_said (h : J w0 U w g ch r W nx ms sd al nx' ms' sd' al') : Calls Try.prog 16 #[.pointer (some ⟨g, 0, none⟩)] w fun e w' => e = .returned (.int .i64 (sd : Int)) ∧ w = w' := by
  obtain ⟨M, N, h⟩ := h; exact said_c h.hs
theorem j_next (h : J w0 U w g ch r W nx ms sd al nx' ms' sd' al') : Calls Try.prog 17 #[.pointer (some ⟨g, 0, none⟩)] w fun e w' => e = .returned (.int .i64 nx) ∧ w = w' := by
  obtain ⟨M, N, h⟩ := h; exact next_c h.hs
theorem j_rleft (h : J w0 U w g ch r W nx ms sd al nx' ms' sd' al') : Calls Try.prog 20 #[.pointer (some ⟨r, 0, none⟩)] w fun e w' => e = .returned (.int .i64 (ms'.length : Int)) ∧ w = w' := by
  obtain ⟨M, N, h⟩ := h; exact rleft_c h.hr
theorem j_rsaid (h : J w0 U w g ch r W nx ms sd al nx' ms' sd' al') : Calls Try.prog 21 #[.pointer (some ⟨r, 0, none⟩)] w fun e w' => e = .returned (.int .i64 (sd' : Int)) ∧ w = w' := by
  obtain ⟨M, N, h⟩ := h; exact rsaid_c h.hr
theorem j_rnext (h : J w0 U w g ch r W nx ms sd al nx' ms' sd' al') : Calls Try.prog 22 #[.pointer (some ⟨r, 0, none⟩)] w fun e w' => e = .returned (.int .i64 nx') ∧ w = w' := by
  obtain ⟨M, N, h⟩ := h; exact rnext_c h.hr
theorem j_nx (h : J w0 U w g ch r W nx ms sd al nx' ms' sd' al') : 0 ≤ nx' ∧ nx' ≤ 65535 := by
  obtain ⟨M, N, h⟩ := h; exact ⟨h.hr.n0, h.hr.n1⟩
theorem j_four (h : J w0 U w g ch r W nx ms sd al nx' ms' sd' al') : sd ≤ 4 ∧ W ≤ 4 ∧ r < w.heap.size := by
  obtain ⟨M, N, h⟩ := h; have h1 := h.hs.s1; have h2 := h.hs.w4; exact ⟨by omega, h2, h.hr.rlt⟩
theorem j_hm (h : J w0 U w g ch r W nx ms sd al nx' ms' sd' al') : ∀ m ∈ ms, m.length ≤ 256 := by
  obtain ⟨M, N, h⟩ := h; exact fun m hm => (h.hs.hm m hm).2
theorem j_put (A : Option Addr) (bs : List Int) (c : Nat) (h : J w0 U w g ch r W nx ms sd al nx' ms' sd' al') (hC : (Kd.int .u8).C w A bs.length bs) (hcc : bs.length ≤ c) :
    Calls Try.prog 10 #[.pointer (some ⟨g, 0, none⟩), .slice A bs.length c] w fun e w' => e = .returned (.int .i64 (putE bs.length al ms.length)) ∧ J w0 (fun k => U k ∨ w.heap.size ≤ k) w' g ch r W nx (putL ms bs al) sd (putA ms bs al) nx' ms' sd' al' ∧ Fr U w w' := by
  have hj := h.mono (U' := fun k => U k ∨ w.heap.size ≤ k) (fun _ h => .inl h)
  unfold putL putA
  by_cases h1 : bs.length < 1 ∨ 256 < bs.length
  · have he : putE bs.length al ms.length = 2 := if_pos h1
    rw [he, if_neg (by decide), if_neg (by decide)]
    obtain ⟨M, N, h⟩ := h
    exact (put_arg A bs.length c h.hs h1).mono fun e w' ⟨a, b⟩ => ⟨a, b ▸ hj, b ▸ Fr.refl _ _⟩
  by_cases h2 : 20000 ≤ al
  · have he : putE bs.length al ms.length = 5 := by unfold putE; rw [if_neg h1, if_pos h2]
    rw [he, if_neg (by decide), if_neg (by decide)]
    obtain ⟨M, N, h⟩ := h
    exact (put_limit A bs.length c h.hs (by omega) (by omega) h2).mono fun e w' ⟨a, b⟩ => ⟨a, b ▸ hj, b ▸ Fr.refl _ _⟩
  by_cases h3 : 512 ≤ ms.length
  · have he : putE bs.length al ms.length = 7 := by unfold putE; rw [if_neg h1, if_neg h2, if_pos h3]
    rw [he, if_neg (by decide), if_neg (by decide)]
    obtain ⟨M, N, h⟩ := h
    exact (put_full A bs.length c h.hs (by omega) (by omega) (by omega) h3).mono fun e w' ⟨a, b⟩ => ⟨a, b ▸ hj, b ▸ Fr.refl _ _⟩
  have he : putE bs.length al ms.length = 0 := by unfold putE; rw [if_neg h1, if_neg h2, if_neg h3]
  rw [he, if_pos rfl, if_pos rfl]
  obtain ⟨M, N, h⟩ := h
  refine (put_ok A bs c h.hs hC hcc (by omega) (by omega) (by omega) (by omega)).mono fun e w' ⟨a, b, f⟩ => ?_
  have f' : Fr (fun k => M k ∨ k = g ∨ k = ch) w w' := f.mono (fun k hk => hk.elim .inl (fun a => .inr (.inl a)))
  exact ⟨a, h.sstep b (fun k hk => hk) (fun k hk => .inl hk) (fun k hk => hk.elim (fun a => .inl (h.mU k a)) .inr) f', h.frs f'⟩
theorem j_rput (A : Option Addr) (bs : List Int) (c : Nat) (h : J w0 U w g ch r W nx ms sd al nx' ms' sd' al') (hC : (Kd.int .u8).C w A bs.length bs) (hcc : bs.length ≤ c) :
    Calls Try.prog 29 #[.pointer (some ⟨r, 0, none⟩), .slice A bs.length c] w fun e w' => e = .returned (.int .i64 (putE bs.length al' ms'.length)) ∧ J w0 (fun k => U k ∨ w.heap.size ≤ k) w' g ch r W nx ms sd al nx' (putL ms' bs al') sd' (putA ms' bs al') ∧ Fr U w w' := by
  have hj := h.mono (U' := fun k => U k ∨ w.heap.size ≤ k) (fun _ h => .inl h)
  unfold putL putA
  by_cases h1 : bs.length < 1 ∨ 256 < bs.length
  · have he : putE bs.length al' ms'.length = 2 := if_pos h1
    rw [he, if_neg (by decide), if_neg (by decide)]
    obtain ⟨M, N, h⟩ := h
    exact (rput_arg A bs.length c h.hr h1).mono fun e w' ⟨a, b⟩ => ⟨a, b ▸ hj, b ▸ Fr.refl _ _⟩
  by_cases h2 : 20000 ≤ al'
  · have he : putE bs.length al' ms'.length = 5 := by unfold putE; rw [if_neg h1, if_pos h2]
    rw [he, if_neg (by decide), if_neg (by decide)]
    obtain ⟨M, N, h⟩ := h
    exact (rput_limit A bs.length c h.hr (by omega) (by omega) h2).mono fun e w' ⟨a, b⟩ => ⟨a, b ▸ hj, b ▸ Fr.refl _ _⟩
  by_cases h3 : 512 ≤ ms'.length
  · have he : putE bs.length al' ms'.length = 7 := by unfold putE; rw [if_neg h1, if_neg h2, if_pos h3]
    rw [he, if_neg (by decide), if_neg (by decide)]
    obtain ⟨M, N, h⟩ := h
    exact (rput_full A bs.length c h.hr (by omega) (by omega) (by omega) h3).mono fun e w' ⟨a, b⟩ => ⟨a, b ▸ hj, b ▸ Fr.refl _ _⟩
  have he : putE bs.length al' ms'.length = 0 := by unfold putE; rw [if_neg h1, if_neg h2, if_neg h3]
  rw [he, if_pos rfl, if_pos rfl]
  obtain ⟨M, N, h⟩ := h
  refine (rput_ok A bs c h.hr hC hcc (by omega) (by omega) (by omega) (by omega)).mono fun e w' ⟨a, b, f⟩ => ?_
  exact ⟨a, h.rstep b (fun k hk => hk) (fun k hk => .inl hk) (fun k hk => hk.elim (fun a => .inl (h.nU k a)) .inr) f, h.frr f⟩
theorem j_fresh (h : J w0 U w g ch r W nx ms sd al nx' ms' sd' al') :
    Calls Try.prog 11 #[.pointer (some ⟨g, 0, none⟩)] w fun e w' => ∃ v, e = .returned v ∧ k35.R 35 w' w.heap.size (fun _ => True) v (items nx ms sd (min W ms.length - sd)) ∧ J w0 U w' g ch r W nx ms (min W ms.length) al nx' ms' sd' al' ∧ Fr U w w' := by
  obtain ⟨M, N, h⟩ := h
  refine (fresh_c h.hs).mono fun e w' ⟨v, a, b, c, f⟩ => ?_
  have f' : Fr (fun k => M k ∨ k = g ∨ k = ch) w w' := f.mono (fun k hk => .inr hk)
  exact ⟨v, a, b, h.sstep c (fun k hk => .inl hk) (fun k hk => hk) (fun k hk => h.mU k hk) f', h.frs f'⟩
theorem j_rfresh (h : J w0 U w g ch r W nx ms sd al nx' ms' sd' al') :
    Calls Try.prog 31 #[.pointer (some ⟨r, 0, none⟩)] w fun e w' => ∃ v, e = .returned v ∧ k35.R 35 w' w.heap.size (fun _ => True) v (items nx' ms' sd' (min W ms'.length - sd')) ∧ J w0 U w' g ch r W nx ms sd al nx' ms' (min W ms'.length) al' ∧ Fr U w w' := by
  obtain ⟨M, N, h⟩ := h
  refine (rfresh_c h.hr).mono fun e w' ⟨v, a, b, c, f⟩ => ?_
  have f' : Fr (fun k => N k ∨ k = r) w w' := f.mono (fun k hk => .inr hk)
  exact ⟨v, a, b, h.rstep c (fun k hk => .inl hk) (fun k hk => hk) (fun k hk => h.nU k hk) f', h.frr f'⟩
theorem j_again (h : J w0 U w g ch r W nx ms sd al nx' ms' sd' al') :
    Calls Try.prog 14 #[.pointer (some ⟨g, 0, none⟩)] w fun e w' => ∃ v, e = .returned v ∧ k35.R 35 w' w.heap.size (fun _ => True) v (items nx ms 0 sd) ∧ Below w.heap.size w w' := by
  obtain ⟨M, N, h⟩ := h
  exact again_c h.hs
theorem j_ragain (h : J w0 U w g ch r W nx ms sd al nx' ms' sd' al') :
    Calls Try.prog 32 #[.pointer (some ⟨r, 0, none⟩)] w fun e w' => ∃ v, e = .returned v ∧ k35.R 35 w' w.heap.size (fun _ => True) v (items nx' ms' 0 sd') ∧ Below w.heap.size w w' := by
  obtain ⟨M, N, h⟩ := h
  exact ragain_c h.hr
theorem j_heard (ack : Int) (h : J w0 U w g ch r W nx ms sd al nx' ms' sd' al') :
    Calls Try.prog 13 #[.pointer (some ⟨g, 0, none⟩), .int .i64 ack] w fun e w' => e = .returned (.tuple #[.int .i64 (hn nx ack sd : Int), .int .i64 (hcd nx ack sd)]) ∧ J w0 U w' g ch r W (hx nx ack sd) (ms.drop (hn nx ack sd)) (sd - hn nx ack sd) al nx' ms' sd' al' ∧ Fr U w w' := by
  unfold hn hcd hx
  cases hk : hok nx ack sd with
  | true =>
    rw [if_pos rfl, if_pos rfl, if_pos rfl]
    have h1 := of_decide_eq_true hk
    obtain ⟨M, N, h⟩ := h
    refine (heard_ok ack ((ack - nx) % 65536).toNat h.hs h1.1 h1.2.1 (by omega) (by omega)).mono fun e w' ⟨a, c, f⟩ => ?_
    have f' : Fr (fun k => M k ∨ k = g ∨ k = ch) w w' := f.mono (fun k hk => .inr hk)
    exact ⟨a, h.sstep c (fun k hk => .inl hk) (fun k hk => hk) (fun k hk => h.mU k hk) f', h.frs f'⟩
  | false =>
    rw [if_neg (by decide), if_neg (by decide), if_neg (by decide), List.drop_zero, Nat.sub_zero]
    have h1 := of_decide_eq_false hk
    by_cases h2 : 0 ≤ ack ∧ ack ≤ 65535
    · have hj := h
      obtain ⟨M, N, h⟩ := h
      exact (heard_far ack h.hs h2.1 h2.2 (fun h3 => h1 ⟨h2.1, h2.2, h3⟩)).mono fun e w' ⟨a, b⟩ => ⟨a, hj.grow b, Fr.of_below b⟩
    · have hj := h
      obtain ⟨M, N, h⟩ := h
      exact (heard_bad ack h.hs h2).mono fun e w' ⟨a, b⟩ => ⟨a, b ▸ hj, b ▸ Fr.refl _ _⟩
theorem j_rheard (ack : Int) (h : J w0 U w g ch r W nx ms sd al nx' ms' sd' al') :
    Calls Try.prog 33 #[.pointer (some ⟨r, 0, none⟩), .int .i64 ack] w fun e w' => e = .returned (.tuple #[.int .i64 (hn nx' ack sd' : Int), .int .i64 (hcd nx' ack sd')]) ∧ J w0 U w' g ch r W nx ms sd al (hx nx' ack sd') (ms'.drop (hn nx' ack sd')) (sd' - hn nx' ack sd') al' ∧ Fr U w w' := by
  unfold hn hcd hx
  cases hk : hok nx' ack sd' with
  | true =>
    rw [if_pos rfl, if_pos rfl, if_pos rfl]
    have h1 := of_decide_eq_true hk
    obtain ⟨M, N, h⟩ := h
    refine (rheard_ok ack ((ack - nx') % 65536).toNat h.hr h1.1 h1.2.1 (by omega) (by omega)).mono fun e w' ⟨a, c, f⟩ => ?_
    have f' : Fr (fun k => N k ∨ k = r) w w' := f.mono (fun k hk => .inr hk)
    exact ⟨a, h.rstep c (fun k hk => .inl hk) (fun k hk => hk) (fun k hk => h.nU k hk) f', h.frr f'⟩
  | false =>
    rw [if_neg (by decide), if_neg (by decide), if_neg (by decide), List.drop_zero, Nat.sub_zero]
    have h1 := of_decide_eq_false hk
    by_cases h2 : 0 ≤ ack ∧ ack ≤ 65535
    · have hj := h
      obtain ⟨M, N, h⟩ := h
      exact (rheard_far ack h.hr h2.1 h2.2 (fun h3 => h1 ⟨h2.1, h2.2, h3⟩)).mono fun e w' ⟨a, b⟩ => ⟨a, hj.grow b, Fr.of_below b⟩
    · have hj := h
      obtain ⟨M, N, h⟩ := h
      exact (rheard_bad ack h.hr h2).mono fun e w' ⟨a, b⟩ => ⟨a, b ▸ hj, b ▸ Fr.refl _ _⟩
end
end Go.Proofs.Ytbglagllgppggaa.Base
