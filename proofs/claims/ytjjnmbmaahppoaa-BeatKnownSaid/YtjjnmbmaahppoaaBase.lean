/- Layer 15: the state of a beat, and the contracts of package beat's functions. -/
import Derived.Test.YtjjnmbmaahppoaaPBeatKnownx1
import Derived.WalkKit
import Derived.WalkSpells
import Derived.OpenShut
import Derived.Deep.RegionHeld3
import Derived.RangeFuncNested
import Derived.RangeFuncBound
import Derived.RangeFuncCalls
import Derived.RangeFuncLeaves
import Derived.Shelf.Abstract
import Derived.Shelf.RegionOpen
import Derived.OwnWalkIn
import Derived.TacticsInMore
import Derived.LoopNIn
import Derived.LoopIn
import Derived.Deep.QuietTactic
import Derived.BigQuiet
set_option linter.unusedVariables false
set_option linter.unusedSimpArgs false
namespace Go.Proofs.Ytjjnmbmaahppoaa.Base
open Go.RowKit Go.Shelf Go.Proofs.YtjjnmbmaahppoaaW.PrintWords Go.Proofs.YtjjnmbmaahppoaaW.PrintLast Go.Proofs.YtjjnmbmaahppoaaW.PrintMore
attribute [local go_sem] Oper.semAt_some
attribute [local go_sem] max2_int min2_int max_two min_two

/-- A fact laid behind a name: no rule of the walk. -/
structure Bx (p : Prop) : Prop where mk :: (out : p)
/-- Block g alone has turned. -/
structure Only (g : Nat) (w w' : World) : Prop where
  os : w'.os = w.os
  tape : w'.tape = w.tape
  output : w'.output = w.output
  size : w.heap.size ≤ w'.heap.size
  block : ∀ k, k < w.heap.size → k ≠ g → w'.heap[k]? = w.heap[k]?
theorem cells5 {w : World} {g : Nat} {a b c d e : Value} {t : TypeId} (h : w.heap[g]? = some (.cells #[a, b, c, d, e] t (0, 0))) : w.cell? ⟨g, 0, none⟩ = some a ∧ w.cell? ⟨g, 1, none⟩ = some b ∧ w.cell? ⟨g, 2, none⟩ = some c ∧ w.cell? ⟨g, 3, none⟩ = some d ∧ w.cell? ⟨g, 4, none⟩ = some e :=
  ⟨cell_of_row w g 0 _ t (0, 0) h, cell_of_row w g 1 _ t (0, 0) h, cell_of_row w g 2 _ t (0, 0) h, cell_of_row w g 3 _ t (0, 0) h, cell_of_row w g 4 _ t (0, 0) h⟩

set_option maxHeartbeats 400000 in
theorem waits_c (g : Nat) (w : World) : Calls Try.prog 25 #[.pointer (some ⟨g, 0, none⟩)] w fun e w' => e = .returned (.func (.func 26) #[] #[.pointer (some ⟨w.heap.size, 0, none⟩)]) ∧ w' = w.alloc (.cells #[.pointer (some ⟨g, 0, none⟩)] 24) := by
  go_enter Try.func25, Try.ntmps25
  go_wp2
  go_ret
  exact ⟨rfl, rfl⟩


/-- A round of a loop over an iterator: how its body may be left. -/
def onPost (L D : Nat) (J' : World → Prop) (X : World → Prop) (W : World) : Exit → Act → World → Prop
  | .normal, _, W' => J' W' ∧ W'.heap[L]? = W.heap[L]? ∧ W'.heap[D]? = W.heap[D]?
  | .ret, _, W' => X W' ∧ W'.heap[L]? = W.heap[L]? ∧ W'.heap[D]? = W.heap[D]?
  | _, _, _ => False

/-- A loop over an iterator that goes on for good, left by a return of its body: the k-th round is handed vs k; each round that goes on says that k was not the last. -/
theorem range_counted {F : Fence} {n : Nat} {P : Program} {g : Operand} {ps : Array Tmp} {assign body : Code} {Q : Exit → Act → World → Prop} {a : Act} {w : World}
    (hro : F.round = none) (h1 : 1 ≤ n) {gf : Nat} {lb : Array Value} (hg : a.eval g = .func (.func gf) #[] lb) (hFg : F.fn gf) (eg : ∀ args w, (callFunc gf args).run P w = .ok (.enter gf args) w)
    (D L : Nat) (hDs : D = w.heap.size) (hLs : L = w.heap.size + 1)
    (vs : Nat → Array Value) (hps : ∀ k, (vs k).size = ps.size) (J : Nat → World → Prop) (X : World → Prop) (more : Nat → Prop)
    (hJp : ∀ k W o, J k W → J k (W.putObj L o)) (hXp : ∀ W o, X W → X (W.putObj L o)) (h0 : ∀ o o', J 0 ((w.alloc o).alloc o')) (a1 : Nat → Act)
    (hassign : ∀ (k : Nat) (W : World) (K : Act → World → Prop), K (a1 k) W →
      assign.wpIn (F.inRound L) (n - 1 - 1) P (Exit.then K (fun _ _ _ => False)) { tmps := (ps.zip (vs k)).foldl (fun t (p, v) => t.setIfInBounds p v) a.tmps, defers := [] } W)
    (hbody : ∀ (k : Nat) (W : World), J k W → L < W.heap.size → body.wpIn (F.inRound L) (n - 1 - 1) P (onPost L D (fun W' => more k ∧ J (k + 1) W') X W) (a1 k) W)
    (hiter : ∀ (Jr : Nat → World → Prop) (Xr : World → Prop) (W1 : World), (∀ k W, Jr k W → J k W) →
      (∀ k W, Jr k W → YieldAt F (n - 1 - 1) P L (vs k) W fun e W' => (e = .returned (.bool true) ∧ more k ∧ Jr (k + 1) W') ∨ (e = .returned (.bool false) ∧ Xr W')) →
      Jr 0 W1 → CallsIn F (n - 1) P gf (#[.func (.yield L) #[] #[]] ++ lb) W1 fun e W' => (∃ v, e = .returned v) ∧ Xr W')
    (hstop : ∀ W, X W → W.heap[D]? = some (.deferred (some [])) → Code.ret.wpIn F n P Q { a with defers := { target := .collected D, args := #[] } :: a.defers } W) :
    (Code.rangeFunc g ps assign body).wpIn F n P Q a w := by
  refine wpIn_rangeFunc ?_
  intro fn hfn
  rw [hro]
  obtain ⟨rec, hrec⟩ : ∃ rec : LoopState → Option Code → Loop, rec = fun st pe => { state := st, pending := pe, fn, tmps := a.tmps, params := ps, assign, body, defers := w.heap.size } := ⟨_, rfl⟩
  have hfin : ∀ (W : World), W.heap[L]? = some (.loop { rec .ready none with state := .busy }) → ∀ j, (Instr.endRound L j).run P W = .ok (.bool j.isNone) (W.putObj L (.loop (rec (if j.isNone then .ready else .done) j))) := by
    intro W h j
    have := run_endRound (P := P) j h
    rw [hrec] at this ⊢
    exact this
  refine ⟨w.heap.size + 1, [{ target := .collected w.heap.size, args := #[] }], (w.alloc (.deferred (some []))).alloc (.loop (rec .ready none)), { target := .fn (.func gf) lb, args := #[.func (.yield (w.heap.size + 1)) #[] #[]] }, (w.alloc (.deferred (some []))).alloc (.loop (rec .ready none)), gf,
    #[.func (.yield (w.heap.size + 1)) #[] #[]] ++ lb, (w.alloc (.deferred (some []))).alloc (.loop (rec .ready none)), ?_, ?_, ?_, ?_, fun _ => h1, ?_⟩
  · rw [hrec]; exact run_enterLoop_outer _ _ _ _ _
  · simp only [resolve, hg]
    simp [go_sem]
  · intro f' hf'; simp [Target.leads] at hf'; subst hf'; exact hFg
  · simp [invoke, go_sem, eg]
  rw [← hLs, ← hDs]
  have hLD : L ≠ D := by omega
  refine (hiter (fun k W => J k W ∧ W.heap[L]? = some (.loop (rec .ready none)) ∧ W.heap[D]? = some (.deferred (some [])))
    (fun W => X W ∧ W.heap[L]? = some (.loop (rec .done (some .ret))) ∧ W.heap[D]? = some (.deferred (some []))) _ (fun _ _ h => h.1) ?_ ?_).mono ?_
  · rintro k W ⟨hj, hl, hd⟩
    have hlt : L < W.heap.size := (Array.getElem?_eq_some_iff.1 hl).1
    have hy := run_yield (P := P) (args := vs k) hl (by rw [hrec]; exact hps k)
    rw [hrec] at hy
    refine ⟨fn, _, assign, body, hy, roundIn_of_wpIn hfn (hassign k W _ ⟨_, run_beginRound hl (by rw [hrec]), ?_⟩)⟩
    have hl2 : (W.putObj L (.loop { rec .ready none with state := .busy })).heap[L]? = some (.loop { rec .ready none with state := .busy }) := World.putObj_heap_same hlt
    have hd2 : (W.putObj L (.loop { rec .ready none with state := .busy })).heap[D]? = some (.deferred (some [])) := (World.putObj_heap_other (by omega)).trans hd
    refine wpIn_mono (hbody k _ (hJp _ _ _ hj) (Array.getElem?_eq_some_iff.1 hl2).1) ?_
    rintro e a3 W3 hp
    cases e with
    | normal =>
      obtain ⟨⟨hm, hj3⟩, hl3, hd3⟩ := hp
      refine ⟨_, _, hfin W3 (hl3.trans hl2) none, .inl ⟨rfl, hm, hJp _ _ _ hj3, World.putObj_heap_same (Array.getElem?_eq_some_iff.1 (hl3.trans hl2)).1, (World.putObj_heap_other (by omega)).trans (hd3.trans hd2)⟩⟩
    | ret =>
      obtain ⟨hx3, hl3, hd3⟩ := hp
      refine ⟨_, _, hfin W3 (hl3.trans hl2) (some .ret), .inr ⟨rfl, hXp _ _ hx3, World.putObj_heap_same (Array.getElem?_eq_some_iff.1 (hl3.trans hl2)).1, (World.putObj_heap_other (by omega)).trans (hd3.trans hd2)⟩⟩
    | exit id => exact hp.elim
    | goto t => exact hp.elim
    | panic ch => exact hp.elim
    | outgrown => exact hp.elim
  · refine ⟨h0 _ _, ?_, ?_⟩
    · subst hLs; have := World.alloc_heap_new (w.alloc (.deferred (some []))) (.loop (rec .ready none)); rwa [World.size_alloc] at this
    · subst hDs; exact (Below.heap_alloc _ _ _ (by simp)).trans (World.alloc_heap_new w _)
  · rintro e W2 ⟨⟨v, rfl⟩, hx, hl, hd⟩
    exact ⟨some .ret, _, by have := run_endLoop (P := P) hl (by rw [hrec]; simp); rw [hrec] at this; exact this, hstop _ (hXp _ _ hx) ((World.putObj_heap_other (by omega)).trans hd)⟩

/-! A region of a round that draws its order and only reads: out of the plain quiet walk. -/
section
variable {n : Nat} {P : Program} {ops : Array Oper} {md : Region.Mode} {C : World → Prop} {L : Nat}
theorem op_round {o : Oper} {a : Act} {K : Act → Prop} {K' : Act → World → Prop} {Q' : Exit → Act → World → Prop} {w : World} (hnd : ∀ c, o.op ≠ .defer c) (hw : C w) (h : ∀ a w', C w' → K a → K' a w')
    (hh : o.quiet P a C K) : o.wpIn (Fence.wide.inRound L) n P a w K' Q' := by
  obtain ⟨v, h1, h2⟩ := hh
  have h3 := h1 w hw
  unfold Oper.quietAt at h3
  unfold Oper.wpIn
  refine ⟨fun _ _ => trivial, ?_⟩
  rw [show (Fence.wide.inRound L).round = some L from rfl, Oper.semAt_some _ _ _ hnd]
  generalize (execOp a.eval o).run P w = r at *
  cases r with
  | ok x w' =>
    cases x <;> simp only [Oper.quietUpon] at h3 <;> simp only [Oper.uponIn]
    case value u =>
      obtain ⟨e1, e2⟩ := h3
      rw [e1, e2]
      exact h _ _ hw h2
    case skip =>
      obtain ⟨e1, e2⟩ := h3
      rw [e1, ← e2]
      exact h _ _ hw h2
    case enter f args =>
      obtain ⟨e1, hc⟩ := h3
      rw [e1]
      exact ⟨fun hd => (by cases hd), CallsIn.inRound L (callsIn_wide.2 (hc.mono fun e w'' ⟨he, hw''⟩ => by subst he; exact h _ _ hw'' h2))⟩
  | halt x w' => simp only [Oper.quietUpon] at h3
theorem opn_round {i : Nat} {a : Act} {K : Act → Prop} {K' : Act → World → Prop} {Q' : Exit → Act → World → Prop} {w : World} (hnd : ∀ (j : Nat) (o : Oper) c, ops[j]? = some o → o.op ≠ .defer c) (hC : C w) (h : ∀ a w', C w' → K a → K' a w')
    (hh : qOp P ops C i K a) : wpOpIn (Fence.wide.inRound L) n P ops Q' i K' a w := by
  unfold qOp at hh
  unfold wpOpIn
  split
  · rename_i ho; simp only [ho] at hh; exact h _ _ hC hh
  · rename_i o ho
    simp only [ho] at hh
    split
    · rename_i hw; simp only [hw, if_true] at hh; exact op_round (fun c => hnd _ _ c ho) hC h hh
    · rename_i hw; simp only [hw] at hh; exact ⟨fun _ _ => trivial, h _ _ hC hh⟩
theorem any_round {Q : Act → Prop} {Q' : Exit → Act → World → Prop} (hnd : ∀ (j : Nat) (o : Oper) c, ops[j]? = some o → o.op ≠ .defer c) (hQ : ∀ a w, C w → Q a → Q' .normal a w) : ∀ (fuel : Nat) (listed : Array Bool) (a : Act) (w : World), C w →
    wpAnyQ P md ops C Q fuel listed a → wpAnyIn (Fence.wide.inRound L) n P md ops Q' fuel listed a w
  | 0, _, _, _, hw, h => ⟨h.1, hQ _ _ hw h.2⟩
  | fuel + 1, _, _, _, hw, h => ⟨fun h0 => hQ _ _ hw (h.1 h0), fun i hi => opn_round hnd hw (fun a' w' hw' => any_round hnd hQ fuel _ a' w' hw') (h.2 i hi)⟩
def noDefer (l : List Oper) : Bool := l.all fun o => match o.op with | .defer _ => false | _ => true
theorem region_round {id : Nat} {Q : Exit → Act → World → Prop} {a : Act} {w : World} {l : List Oper} (hm : P.follows .mixedOrders = true) (hB : Region.lexB .any l.toArray = true) (hnd : noDefer l = true)
    (h : wpQuiet P l.toArray (fun w' => ∃ n, w' = w.drewN n) (fun a' => ∀ w', (∃ n, w' = w.drewN n) → Q .normal a' w') l a) : (Code.region id l.toArray true).wpIn (Fence.wide.inRound L) n P Q a w := by
  simp only [Region.lexB, Bool.and_eq_true] at hB
  refine wpIn_region_any hm (any_round (C := fun w' => ∃ n, w' = w.drewN n) (Q := fun a' => ∀ w', (∃ n, w' = w.drewN n) → Q .normal a' w') ?_ (fun _ w' hw' h => h w' hw') _ _ _ _ ⟨1, rfl⟩ ?_)
  · intro j o c hj e
    have hm : o ∈ l := by
      rw [List.getElem?_toArray] at hj
      exact List.mem_of_getElem? hj
    have := List.all_eq_true.1 hnd o hm
    rw [e] at this
    cases this
  · have := wpAnyQ_lex (C := fun w' => ∃ n, w' = w.drewN n) (md := .any) hB.1 l 0 (Array.replicate l.toArray.size false) a (by simp) (by simpa using hB.2) h
    simpa using this
end

/-- The k-th wait. -/
def wv (f c : Int) : Nat → Int
  | 0 => f
  | k + 1 => min (2 * wv f c k) c
theorem wv_le {f c : Int} (h : f ≤ c) : ∀ k, wv f c k ≤ c
  | 0 => h
  | k + 1 => by simp only [wv]; omega
theorem wv_pos {f c : Int} (h0 : 1 ≤ f) (h : f ≤ c) : ∀ k, 1 ≤ wv f c k
  | 0 => h0
  | k + 1 => by have := wv_pos h0 h k; simp only [wv]; omega
theorem wv_pow {f c : Int} (h0 : 1 ≤ f) (h : f ≤ c) : ∀ k, min ((2 : Int) ^ k) c ≤ wv f c k
  | 0 => by simp only [wv]; omega
  | k + 1 => by
    have := wv_pow h0 h k
    have h2 := wv_le h k
    have h3 : (2 : Int) ^ (k + 1) = 2 * 2 ^ k := by rw [Int.pow_succ]; omega
    simp only [wv]
    omega
theorem wv_cap {f c : Int} (h0 : 1 ≤ f) (h : f ≤ c) (hc : c ≤ 10000) (k : Nat) (hk : 14 ≤ k) : wv f c k = c := by
  have h1 := wv_pow h0 h k
  have h2 := wv_le h k
  have h3 : (2 : Nat) ^ 14 ≤ 2 ^ k := Nat.pow_le_pow_right (by decide) hk
  have h4 : (2 : Int) ^ k = ((2 ^ k : Nat) : Int) := by simp
  rw [h4] at h1
  have : (16384 : Nat) ≤ 2 ^ k := h3
  omega
theorem wv_stays {f c : Int} (h0 : 1 ≤ f) (h : f ≤ c) (k : Nat) (hk : wv f c k = c) : ∀ t, k ≤ t → wv f c t = c := by
  intro t ht
  induction t with
  | zero => obtain rfl : k = 0 := by omega
            exact hk
  | succ t ih =>
    by_cases e : k = t + 1
    · rw [← e]; exact hk
    · have := ih (by omega)
      simp only [wv, this]
      omega

theorem below_put {B l : Nat} {w W : World} {o : Obj} (h : Below B w W) (hB : B ≤ w.heap.size) (hl : B ≤ l) : Below B w (W.putObj l o) :=
  h.trans ((Below.refl B W).grown (grownBy_putObj' W l o) (by have := h.size; omega) (fun k e => by cases e; omega))
theorem Only.put {g l : Nat} {w W : World} {o : Obj} (h : Only g w W) (hl : w.heap.size ≤ l) : Only g w (W.putObj l o) :=
  ⟨h.os, h.tape, h.output, by simp [World.putObj]; exact h.size, fun k hk hne => (World.putObj_heap_other (by omega)).trans (h.block k hk hne)⟩

theorem old_heap (w : World) (o : Obj) (k : Nat) (h : k < w.heap.size) : (w.alloc o).heap[k]? = w.heap[k]? := Below.heap_alloc w o k h
theorem new_heap (w : World) (o : Obj) (k : Nat) (h : w.heap.size = k) : (w.alloc o).heap[k]? = some o := by subst h; exact World.alloc_heap_new w o
def iOf (W : World) (b : Nat) : Nat := match W.cell? ⟨b, 0, none⟩ with | some (.int _ k) => k.toNat | _ => 0
structure JJ (w W : World) (g : Nat) (now : Int) (k : Nat) : Prop where
  hb : W.heap[w.heap.size]? = some (.cells #[.pointer (some ⟨g, 0, none⟩)] 24 (0, 0))
  hn : W.heap[w.heap.size + 1]? = some (.cells #[.int .i64 now] 3 (0, 0))
  hi : W.heap[w.heap.size + 1 + 1]? = some (.cells #[.int .i64 (k : Int)] 3 (0, 0))
  hw : W.heap[w.heap.size + 1 + 1 + 1]? = some (.cells #[.pointer (some ⟨g, 0, none⟩)] 24 (0, 0))
  hB : Below w.heap.size w W
theorem JJ.put {w W : World} {g : Nat} {now : Int} {k l : Nat} {o : Obj} (h : JJ w W g now k) (hl : w.heap.size + 4 ≤ l) : JJ w (W.putObj l o) g now k :=
  ⟨(World.putObj_heap_other (by omega)).trans h.hb, (World.putObj_heap_other (by omega)).trans h.hn, (World.putObj_heap_other (by omega)).trans h.hi, (World.putObj_heap_other (by omega)).trans h.hw, below_put h.hB (Nat.le_refl _) (by omega)⟩

set_option maxRecDepth 100000 in
set_option maxHeartbeats 2000000 in
theorem on_c (g t : Nat) (f c a now : Int) (r : Bool) (w : World) (hg : w.heap[g]? = some (.cells #[.int .i64 f, .int .i64 c, .bool r, .int .i64 a, .int .i64 (t : Int)] 35 (0, 0)))
    (h0 : 1 ≤ f) (h1 : f ≤ c) (h2 : c ≤ 10000) (h3 : 0 ≤ now) (h4 : now ≤ 2 ^ 60) (h5 : t ≤ 1000000) :
    Calls Try.prog 17 #[.pointer (some ⟨g, 0, none⟩), .int .i64 now] w fun e w' => e = .returned (.tuple #[]) ∧
      w'.heap[g]? = some (.cells #[.int .i64 f, .int .i64 c, .bool r, .int .i64 (now + wv f c t), .int .i64 (t : Int)] 35 (0, 0)) ∧ Only g w w' := by
  have HG := Bx.mk hg
  clear hg
  refine (callsIn_wide (n := 10)).1 ?_
  refine callsIn_of_wp_marks Try.func17 rfl trivial ?_ rfl
  simp only [Try.ntmps17, List.size_toArray, List.length_cons, List.length_nil, Nat.reduceAdd, Nat.reduceSub, Array.replicate_succ, Array.replicate_zero, List.push_toArray, List.append_toArray, List.nil_append, List.cons_append]
  gi_wp2_with (refine ⟨trivial, ?_⟩; gi_at_call 25; refine (callsIn_wide.2 (waits_c g _)).mono ?_; rintro e w' ⟨rfl, rfl⟩)
  have hgl : g < w.heap.size := (Array.getElem?_eq_some_iff.1 HG.out).1
  refine range_counted rfl (by decide) (gf := 26) (lb := #[.pointer (some ⟨w.heap.size + 1 + 1 + 1, 0, none⟩)]) rfl trivial (enters_of Try.func26 (by kernel_rfl) rfl)
    (w.heap.size + 4) (w.heap.size + 5) (by simp) (by simp) (fun k => #[.int .i64 (wv f c k)]) (fun _ => rfl)
    (fun k W => JJ w W g now k ∧ k ≤ t) (fun W => W.heap[g]? = some (.cells #[.int .i64 f, .int .i64 c, .bool r, .int .i64 (now + wv f c t), .int .i64 (t : Int)] 35 (0, 0)) ∧ Only g w W) (fun k => k < 14 ∧ k < t)
    (fun k W o h => ⟨h.1.put (by omega), h.2⟩) (fun W o h => ⟨(World.putObj_heap_other (by omega)).trans h.1, h.2.put (by omega)⟩) ?h0
    (fun k => { tmps := #[.pointer (some ⟨g, 0, none⟩), .int .i64 now, .pointer (some ⟨w.heap.size, 0, none⟩), .pointer (some ⟨w.heap.size + 1, 0, none⟩), .pointer (some ⟨w.heap.size + 1 + 1, 0, none⟩), .int .i64 (wv f c k), .pointer (some ⟨g, 0, none⟩), .func (.func 26) #[] #[.pointer (some ⟨w.heap.size + 1 + 1 + 1, 0, none⟩)], .int .i64 (wv f c k), undef, undef, undef, undef, undef, undef, undef, undef, undef, undef, undef, undef, undef, undef, undef, undef, undef, undef, undef, undef, undef, undef], defers := [] })
    ?assign ?body ?iter ?stop
  case h0 =>
    intro o o'
    refine ⟨⟨?_, ?_, ?_, ?_, ?_⟩, by omega⟩
    · exact (old_heap _ _ _ (by simp; try omega)).trans <| (old_heap _ _ _ (by simp; try omega)).trans <| (old_heap _ _ _ (by simp; try omega)).trans <| (old_heap _ _ _ (by simp; try omega)).trans <| (old_heap _ _ _ (by simp; try omega)).trans <| World.alloc_heap_new w _
    · exact (old_heap _ _ _ (by simp; try omega)).trans <| (old_heap _ _ _ (by simp; try omega)).trans <| (old_heap _ _ _ (by simp; try omega)).trans <| (old_heap _ _ _ (by simp; try omega)).trans <| new_heap _ _ _ (by simp)
    · exact (old_heap _ _ _ (by simp; try omega)).trans <| (old_heap _ _ _ (by simp; try omega)).trans <| (old_heap _ _ _ (by simp; try omega)).trans <| new_heap _ _ _ (by simp)
    · exact (old_heap _ _ _ (by simp; try omega)).trans <| (old_heap _ _ _ (by simp; try omega)).trans <| new_heap _ _ _ (by simp)
    · exact ((((((Below.refl _ w).alloc (Nat.le_refl _) _).alloc (by simp) _).alloc (by simp; omega) _).alloc (by simp; omega) _).alloc (by simp; omega) _).alloc (by simp; omega) _
  case assign =>
    intro k W K hK
    gi_wp2
    exact hK
  case body =>
    intro k W hJ hL
    obtain ⟨hJ, hkt⟩ := hJ
    have hgW := (hJ.hB.block g hgl).trans HG.out
    have HJ := Bx.mk hJ
    have HGW := Bx.mk hgW
    obtain ⟨c0, c1, c2, c3, c4⟩ := cells5 hgW
    have cb : W.cell? ⟨w.heap.size, 0, none⟩ = some (.pointer (some ⟨g, 0, none⟩)) := cell_of_row W _ 0 _ 24 (0, 0) hJ.hb
    have cn : W.cell? ⟨w.heap.size + 1, 0, none⟩ = some (.int .i64 now) := cell_of_row W _ 0 _ 3 (0, 0) hJ.hn
    have ci : W.cell? ⟨w.heap.size + 1 + 1, 0, none⟩ = some (.int .i64 (k : Int)) := cell_of_row W _ 0 _ 3 (0, 0) hJ.hi
    have z3 := frozen_of_row W _ 3 _ _ hgW
    have zi := frozen_of_row W _ 0 _ _ hJ.hi
    clear hJ hgW
    have hd : 1 ≤ 10 - 1 - 1 := by omega
    have hmx : Try.prog.follows .mixedOrders = true := by kernel_rfl
    have hv0 := wv_pos h0 h1 k
    have hv1 := wv_le h1 k
    cases hk : ((k : Int) == (t : Int)) <;> cases hq : (wv f c k == c)
    all_goals gi_wp2
    all_goals refine region_round (by kernel_rfl) (by kernel_rfl) (by kernel_rfl) ?_
    all_goals repeat (go_big_quiet_step (fail))
    all_goals refine wpQuiet_nil ?_
    all_goals (rintro _ ⟨nq, rfl⟩)
    all_goals gi_wp2
    · have hj := HJ.out
      have hk' : k < t := by simp at hk; omega
      have hk2 : k < 14 := by
        simp at hq
        apply Classical.byContradiction
        intro h
        exact hq (wv_cap h0 h1 h2 k (by omega))
      refine ⟨⟨⟨hk2, hk'⟩, ⟨?_, ?_, ?_, ?_, ?_⟩, by omega⟩, ?_, ?_⟩
      · exact (Below.heap_setCell (W.drewN nq) _ _ _ (by simp <;> omega)).trans hj.hb
      · exact (Below.heap_setCell (W.drewN nq) _ _ _ (by simp)).trans hj.hn
      · simpa using blk_set (w := W.drewN nq) hj.hi 0 (.int .i64 ((k : Int) + 1))
      · exact (Below.heap_setCell (W.drewN nq) _ _ _ (by simp)).trans hj.hw
      · exact ⟨hj.hB.os, hj.hB.tape, hj.hB.output, by simp [World.setCell]; exact hj.hB.size, fun k hk => (Below.heap_setCell (W.drewN nq) _ _ k (by simp; omega)).trans (hj.hB.block k hk)⟩
      · exact Below.heap_setCell (W.drewN nq) _ _ _ (by simp)
      · exact Below.heap_setCell (W.drewN nq) _ _ _ (by simp)
    all_goals
      have hj := HJ.out
      have he : wv f c k = wv f c t := by
        first
          | (have : (k : Int) = t := by simpa using hk
             have : k = t := by omega
             rw [this])
          | (have hq' : wv f c k = c := by simpa using hq
             rw [hq', wv_stays h0 h1 k hq' t hkt])
      rw [he]
      refine ⟨⟨by simpa using blk_set (w := W.drewN nq) HGW.out 3 (.int .i64 (now + wv f c t)), ?_⟩, Below.heap_setCell (W.drewN nq) _ _ _ (by simp; omega), Below.heap_setCell (W.drewN nq) _ _ _ (by simp; omega)⟩
      refine ⟨hj.hB.os, hj.hB.tape, hj.hB.output, by simp [World.setCell]; exact hj.hB.size, fun k hk hne => (Below.heap_setCell (W.drewN nq) _ _ _ hne).trans (hj.hB.block k hk)⟩
  case iter =>
    intro Jr Xr W1 hJr hY hs
    obtain ⟨hj, _⟩ := hJr 0 W1 hs
    have hgW := (hj.hB.block g hgl).trans HG.out
    have c0 := (cells5 hgW).1
    have cw : W1.cell? ⟨w.heap.size + 1 + 1 + 1, 0, none⟩ = some (.pointer (some ⟨g, 0, none⟩)) := cell_of_row W1 _ 0 _ 24 (0, 0) hj.hw
    clear hgW hj
    refine callsIn_of_wp Try.func26 rfl trivial ?_ rfl
    simp only [Try.ntmps26, List.size_toArray, List.length_cons, List.length_nil, Nat.reduceAdd, Nat.reduceSub, Array.replicate_succ, Array.replicate_zero, List.push_toArray, List.append_toArray, List.nil_append, List.cons_append]
    gi_wp2
    gi_loopw [3] (fun p wr => ∃ k, p = .int .i64 (wv f c k) ∧ Jr k wr) (fun p wr => 14 - iOf wr (w.heap.size + 1 + 1))
    case atStart => exact ⟨0, rfl, hs⟩
    case round =>
      obtain ⟨k, rfl, hJk⟩ := hrel
      obtain ⟨fn, tmps, assign, body, hy, hR⟩ := hY k wr hJk
      gi_wp2
      refine hR.mono ?_
      rintro e W3 (⟨rfl, hm, hJ3⟩ | ⟨rfl, hX3⟩)
      · obtain ⟨hj3, _⟩ := hJr _ _ hJ3
        have hi0 := (hJr _ _ hJk).1.hi
        have hgW := (hj3.hB.block g hgl).trans HG.out
        have c1 := (cells5 hgW).2.1
        have cw : W3.cell? ⟨w.heap.size + 1 + 1 + 1, 0, none⟩ = some (.pointer (some ⟨g, 0, none⟩)) := cell_of_row W3 _ 0 _ 24 (0, 0) hj3.hw
        have HI := Bx.mk hj3.hi
        have HI0 := Bx.mk hi0
        clear hgW hj3 hi0
        have hv0 := wv_pos h0 h1 k
        have hv1 := wv_le h1 k
        gi_wp2
        go_roundw
        case rel =>
          refine ⟨k + 1, ?_, hJ3⟩
          congr 1
          simp only [wv, Int.min_def]
          split <;> split <;> omega
        case measure =>
          have e1 : iOf W3 (w.heap.size + 1 + 1) = k + 1 := by
            unfold iOf
            rw [cell_of_row W3 _ 0 _ 3 (0, 0) HI.out]
            simp
          have e2 : iOf wr (w.heap.size + 1 + 1) = k := by
            unfold iOf
            rw [cell_of_row wr _ 0 _ 3 (0, 0) HI0.out]
            simp
          rw [e1, e2]
          have := hm.1
          omega
      · gi_wp2
        go_end0
        exact ⟨⟨_, rfl⟩, hX3⟩
  case stop =>
    rintro W ⟨hx, ho⟩ hd
    gi_wp2
    refine ⟨by simp, .inl ⟨_, _, rfl, run_takeDeferred hd, ?_⟩⟩
    exact ⟨_, results_none rfl _ _ _, rfl, (World.putObj_heap_other (by omega)).trans hx, ho.put (by omega)⟩

end Go.Proofs.Ytjjnmbmaahppoaa.Base
