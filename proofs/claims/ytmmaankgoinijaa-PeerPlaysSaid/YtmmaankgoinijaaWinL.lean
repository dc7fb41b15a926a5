/- The iterator over a window's nonces, and List: a new slice that owns the nonces that were taken, rising. -/
import Derived.RangeFuncBox
import Derived.RangeFuncLeaves
import Derived.Shelf.Abstract
import Derived.OwnWalkIn
import Derived.TacticsInMore
import Derived.LoopNIn
import Derived.LoopIn
import Derived.Maps.AppendAt
import Derived.Test.YtmmaankgoinijaaWin
namespace Go.Proofs.Ytmmaankgoinijaa
open Go.RowKit Go.Shelf

attribute [local go_sem] Oper.semAt_some

/-- The nonces of the marks below k, rising. -/
def winFrom (t g : Int) : Nat → List Int
  | 0 => []
  | k + 1 => if marked g k = true then (t - k) :: winFrom t g k else winFrom t g k
def winList (t g : Int) : List Int := winFrom t g 64

theorem winFrom_length (t g : Int) (k : Nat) : (winFrom t g k).length ≤ k := by
  induction k with
  | zero => simp [winFrom]
  | succ k ih => 
    unfold winFrom
    split
    · simp; exact ih
    · omega

theorem winFrom_zero (k : Nat) : winFrom 0 0 k = [] := by
  induction k with
  | zero => rfl
  | succ k ih => unfold winFrom; rw [if_neg, ih]; unfold marked; rw [Int.zero_ediv]; decide +kernel

/-- What a round of the iterator keeps: every old block but block x. -/
structure Spares (N x : Nat) (W W' : World) : Prop where
  size : W.heap.size ≤ W'.heap.size
  block : ∀ k, k < N → k ≠ x → W'.heap[k]? = W.heap[k]?
theorem Spares.refl (N x : Nat) (W : World) : Spares N x W W := ⟨Nat.le_refl _, fun _ _ _ => rfl⟩
theorem Spares.trans {N x : Nat} {A B C : World} (h : Spares N x A B) (k : Spares N x B C) : Spares N x A C :=
  ⟨Nat.le_trans h.size k.size, fun i hi hx => (k.block i hi hx).trans (h.block i hi hx)⟩

set_option maxRecDepth 100000 in
set_option maxHeartbeats 1000000 in
theorem taken1_in (n : Nat) (hn : 1 ≤ n) (l Bn b N x : Nat) (t g : Int) (ht0 : 0 ≤ t) (ht1 : t ≤ 65535) (h00 : t = 0 → g = 0) (J Jx : List Int → World → Prop) (hb : b < N) (hbx : b ≠ x) (hBN : Bn < N) (hBx : Bn ≠ x)
    (hY : ∀ pre v W, J pre W → pre.length < 64 → YieldAt Fence.wide (n - 1) Try.prog l #[.int .i64 v] W fun e W' =>
      (e = .returned (.bool true) ∧ J (pre ++ [v]) W' ∧ Spares N x W W') ∨ (e = .returned (.bool false) ∧ Jx (pre ++ [v]) W'))
    (W : World) (hBn : W.cell? ⟨Bn, 0, none⟩ = some (.pointer (some ⟨b, 0, none⟩))) (hW : Win W b t g) (h0 : J [] W) :
    CallsIn Fence.wide n Try.prog 38 #[.func (.yield l) #[] #[], .pointer (some ⟨Bn, 0, none⟩)] W fun e W' => (∃ v, e = .returned v) ∧
      ((∃ ys, ys = winList t g ∧ J ys W') ∨ (∃ pre, pre <+: winList t g ∧ Jx pre W')) := by
  have c0 := hW.cell0
  have c1 := hW.cell1
  refine callsIn_of_wp Try.func38 rfl trivial ?_ rfl
  simp only [Try.ntmps38, List.size_toArray, List.length_cons, List.length_nil, Nat.reduceAdd, Nat.reduceSub, Array.replicate_succ, Array.replicate_zero, List.push_toArray, List.append_toArray, List.nil_append, List.cons_append]
  by_cases hz : t = 0
  · have hg := h00 hz
    subst hz hg
    clear h00
    gi_wp2
    refine bodyPost_ret (results_none rfl _ _ _) rfl ?_
    exact ⟨⟨_, rfl⟩, .inl ⟨[], by rw [winList, winFrom_zero], h0⟩⟩
  · clear h00
    gi_wp2
    all_goals
      gi_loopw [3] (fun k wr => ∃ (pre : List Int) (j : Nat), j ≤ 64 ∧ k = .int .i64 ((j : Int) - 1) ∧ winList t g = pre ++ winFrom t g j ∧ pre.length + j ≤ 64 ∧ J pre wr ∧ Win wr b t g ∧ wr.cell? ⟨Bn, 0, none⟩ = some (.pointer (some ⟨b, 0, none⟩)))
        (fun k _ => (intOf k + 1).toNat)
      case atStart => exact ⟨[], 64, by omega, rfl, rfl, by simp, h0, hW, hBn⟩
      case round =>
        obtain ⟨pre, j, hj, rfl, hx, hpl, hJ, hw, hbn⟩ := hrel
        clear hBn c0 c1 hW h0
        have c0 := hw.cell0
        have c1 := hw.cell1
        cases j with
        | zero =>
          gi_wp2
          go_end0
          exact ⟨⟨_, rfl⟩, .inl ⟨pre, by rw [hx]; simp [winFrom], hJ⟩⟩
        | succ j =>
          have ej : ((j + 1 : Nat) : Int) - 1 = (j : Int) := by omega
          rw [ej]
          have hj1 : (j : Int) < 64 := by omega
          obtain ⟨fn, tmps, assign, body, hy, hR⟩ := hY pre (t - j) wr hJ (by omega)
          by_cases hm : marked g j = true
          · have hm' : (bits BinOp.and IntKind.u64 (g / 2 ^ j) 1 == 1) = true := hm
            gi_wp2
            refine hR.mono ?_
            rintro e W3 (⟨rfl, hJ3, hk3⟩ | ⟨rfl, hJx3⟩)
            · have hw3 : Win W3 b t g := (hk3.block b hb hbx).trans hw
              have hbn3 : W3.cell? ⟨Bn, 0, none⟩ = some (.pointer (some ⟨b, 0, none⟩)) := (World.cell?_of_block (hk3.block Bn hBN hBx)).trans hbn
              gi_wp2
              exact ⟨⟨pre ++ [t - j], j, by omega, rfl, by rw [hx, winFrom, if_pos hm]; simp, by simp; omega, hJ3, hw3, hbn3⟩, by simp only [intOf]; omega⟩
            · gi_wp2
              refine bodyPost_ret (results_none rfl _ _ _) rfl ?_
              exact ⟨⟨_, rfl⟩, .inr ⟨pre ++ [t - j], ⟨winFrom t g j, by rw [hx, winFrom, if_pos hm]; simp⟩, hJx3⟩⟩
          · have hm' : (bits BinOp.and IntKind.u64 (g / 2 ^ j) 1 == 1) = false := by simpa [marked] using hm
            gi_wp2
            refine ⟨fun _ h => (by cases h), ?_⟩
            gi_wp2
            exact ⟨⟨pre, j, by omega, rfl, by rw [hx, winFrom, if_neg hm], by omega, hJ, hw, hbn⟩, by simp only [intOf]; omega⟩

theorem taken_in (n b : Nat) (w : World) :
    CallsIn Fence.wide n Try.prog 37 #[.pointer (some ⟨b, 0, none⟩)] w fun e w' =>
      e = .returned (.func (.func 38) #[] #[.pointer (some ⟨w.heap.size, 0, none⟩)]) ∧ w' = w.alloc (.cells #[.pointer (some ⟨b, 0, none⟩)] 51) := by
  refine callsIn_of_wp Try.func37 rfl trivial ?_ rfl
  simp only [Try.ntmps37, List.size_toArray, List.length_cons, List.length_nil, Nat.reduceAdd, Nat.reduceSub, Array.replicate_succ, Array.replicate_zero, List.push_toArray, List.append_toArray, List.nil_append, List.cons_append]
  gi_wp2
  go_ret
  exact ⟨rfl, rfl⟩

theorem taken_stops (n : Nat) (hn : 1 ≤ n) (Bn b N x : Nat) (t g : Int) (ht0 : 0 ≤ t) (ht1 : t ≤ 65535) (h00 : t = 0 → g = 0) (w : World) (hb : b < N) (hbx : b ≠ x) (hBN : Bn < N) (hBx : Bn ≠ x) (hN : N ≤ w.heap.size)
    (hBn : w.cell? ⟨Bn, 0, none⟩ = some (.pointer (some ⟨b, 0, none⟩))) (hW : Win w b t g) :
    SeqStopsK Fence.wide n Try.prog 38 #[.pointer (some ⟨Bn, 0, none⟩)] (fun v : Int => #[Value.int .i64 v]) (Spares N x) (fun ys => ys = winList t g) (fun pre => pre <+: winList t g) 64 w := fun l J Jx W hB _ _ hY h0 =>
  taken1_in n hn l Bn b N x t g ht0 ht1 h00 J Jx hb hbx hBN hBx hY W ((hB.cell (p := ⟨Bn, 0, none⟩) (by show Bn < _; omega)).trans hBn) ((hB.block b (by omega)).trans hW) h0

theorem spares_b {N x : Nat} {w : World} (hn : N ≤ w.heap.size) (W : World) (l : Nat) (o o' : Obj) (hl : w.heap.size ≤ l) (_ : W.heap[l]? = some o) (_ : o.isCells = false) (_ : o.isWalk = false) : Spares N x W (W.putObj l o') :=
  ⟨by simp, fun k hk _ => World.putObj_heap_other (by omega)⟩

/-- 'l = append(l, ..)', l in a box of its own below the row's base: what the walk owes behind it. -/
theorem appended2 {W w1 : World} {n₀ B : Nat} {t e : TypeId} {size : Nat} {v v' : Value} {k m : Nat} {xs ys : List Value} {tmp : Obj}
    (hv : Boxed W B t v) (hte : t ≠ e) (hrow : W.ownsRow n₀ e size v k xs) (hn₀ : n₀ ≤ W.heap.size)
    (hown' : w1.ownsRow n₀ e size v' m ys) (hgrow : (W.alloc tmp).grownBy w1 v.ownBlock) :
    Boxed w1 B t v ∧ Boxed (w1.setCell ⟨B, 0, none⟩ v') B t v' ∧ (w1.setCell ⟨B, 0, none⟩ v').ownsRow n₀ e size v' m ys ∧ KeepsOthers W (w1.setCell ⟨B, 0, none⟩ v') ∧ Spares n₀ B W (w1.setCell ⟨B, 0, none⟩ v') ∧ (∀ L, L ≤ B → B < n₀ → Below L W (w1.setCell ⟨B, 0, none⟩ v')) := by
  have hv1 : Boxed w1 B t v := (hv.alloc tmp).kept hgrow (hv.not_row hte hrow)
  have hob : ∀ j, v.ownBlock = some j → n₀ ≤ j := fun j ej => (hrow.lt j ej).1
  refine ⟨hv1, hv1.set v', hown'.kept (grownBy_setCell' w1 B v') (.inr (hv1.not_row hte hown').symm), ?_, ?_, ?_⟩
  · refine ((KeepsOthers.alloc W tmp).trans (KeepsOthers.of_grownBy hgrow fun j o ej hj => ?_)).trans (KeepsOthers.setCell _ _ _)
    rcases (hrow.alloc tmp).2 with ⟨rfl, _⟩ | ⟨g, cap, cur, rfl, _, hgb, _⟩
    · simp [Value.ownBlock] at ej
    · obtain rfl : g = j := by simpa [Value.ownBlock] using ej
      rw [hgb] at hj; cases hj; rfl
  · refine ⟨?_, fun j hj hB => ?_⟩
    · have h1 := hgrow.size; simp at h1; have : (w1.setCell ⟨B, 0, none⟩ v').heap.size = w1.heap.size := by simp [World.setCell]
      omega
    · rw [Below.heap_setCell _ _ _ _ hB, hgrow.block j (by simp; omega) (fun e => by have := hob j e.symm; omega), Below.heap_alloc _ _ _ (by omega)]
  · intro L hL hBn
    exact (((Below.refl L W).alloc (by omega) tmp).grown hgrow (by simp; omega) fun j ej => by have := hob j ej; omega).setCell (p := ⟨B, 0, none⟩) hL v'

theorem ownsRow_slice {W : World} {base : Nat} {e : TypeId} {size : Nat} {v : Value} {k : Nat} {xs : List Value} (h : W.ownsRow base e size v k xs) : ∃ a cap, v = .slice a k cap := by
  rcases h.2 with ⟨rfl, rfl⟩ | ⟨g, cap, _, rfl, _⟩
  · exact ⟨none, 0, rfl⟩
  · exact ⟨_, cap, rfl⟩

theorem results_cell1 {fn : Func} {p : Tmp} {ty : TypeId} (h : fn.results = #[.cell p ty]) (tmps : Array Value) (P : Program) (w : World) :
    (results fn tmps).run P w = ((asAddr (tmps.getD p undef)).run P w).andThen fun a w₁ => (loadVar ty a).run P w₁ := by
  simp only [results, h]
  simp [Sem.run_bind, Result.andThen]

theorem ownsRow_base {W : World} {base base' : Nat} {e : TypeId} {size : Nat} {v : Value} {k : Nat} {xs : List Value} (h : W.ownsRow base e size v k xs) (hb : base' ≤ base) : W.ownsRow base' e size v k xs := by
  refine ⟨h.1, ?_⟩
  rcases h.2 with h2 | ⟨g, cap, cur, r1, r2, r3⟩
  · exact .inl h2
  · exact .inr ⟨g, cap, cur, r1, by omega, r3⟩

theorem infoInt : (Try.prog.info? 3).map (fun i => (i.zero, i.size, i.bytes)) = some (some (.int .i64 0), 1, 8) := by kernel_rfl

set_option maxRecDepth 100000 in
set_option maxHeartbeats 2000000 in
/-- **List**: a new slice that owns the marked nonces, rising; nothing that lay has turned. -/
theorem list_any (b : Nat) (t g : Int) (ht0 : 0 ≤ t) (ht1 : t ≤ 65535) (h00 : t = 0 → g = 0) (w : World) (hW : Win w b t g) :
    Calls Try.prog 32 #[.pointer (some ⟨b, 0, none⟩)] w fun e w' => ∃ v, e = .returned v ∧ w'.ownsRow w.heap.size 3 1 v (winList t g).length ((winList t g).map (Value.int .i64)) ∧ Below w.heap.size w w' := by
  have hlen : (winList t g).length ≤ 64 := winFrom_length _ _ _
  obtain ⟨i0, hi, hz0, hz1, hz2⟩ := info_parts infoInt
  refine (callsIn_wide (n := 9)).1 ?_
  refine callsIn_of_wp_marks Try.func32 rfl trivial ?_ rfl
  simp only [Try.ntmps32, List.size_toArray, List.length_cons, List.length_nil, Nat.reduceAdd, Nat.reduceSub, Array.replicate_succ, Array.replicate_zero, List.push_toArray, List.append_toArray, List.nil_append, List.cons_append]
  gi_wp2_with (refine ⟨trivial, ?_⟩; gi_at_call 37; refine (taken_in _ _ _).mono ?_; rintro e w' ⟨rfl, rfl⟩)
  have hlt := hW.lt
  have bO := Boxed.new w 47 (.slice none 0 0)
  have bN := Boxed.new (w.alloc (.cells #[.slice none 0 0] 47)) 51 (.pointer (some ⟨b, 0, none⟩))
  rw [World.size_alloc] at bN
  have hB0 : Below w.heap.size w ((w.alloc (.cells #[.slice none 0 0] 47)).alloc (.cells #[.pointer (some ⟨b, 0, none⟩)] 51)) := ((Below.refl _ w).alloc (Nat.le_refl _) _).alloc (by simp) _
  refine wpIn_rangeFunc_ownG rfl (by omega) (gf := 38) (lb := #[.pointer (some ⟨w.heap.size + 1, 0, none⟩)]) rfl trivial (enters_of Try.func38 (by kernel_rfl) rfl)
    (taken_stops 8 (by omega) (w.heap.size + 1) b (w.heap.size + 2) w.heap.size t g ht0 ht1 h00 _ (by omega) (by omega) (by omega) (by omega) (by simp) bN.cell ((hB0.block b hlt).trans hW)) Spares.trans (spares_b (by simp)) (Below.refl _ _) (fun _ => rfl)
    (fun pre W => (∃ v, Boxed W w.heap.size 47 v ∧ W.ownsRow (w.heap.size + 2) 3 1 v pre.length (pre.map (Value.int .i64)) ∧ True) ∧ Below w.heap.size w W ∧ w.heap.size + 2 ≤ W.heap.size)
    (fun _ _ _ => False)
    (OwnFrom.and (Own.from (holdsRow_own (w.heap.size + 2) w.heap.size 47 3 1 (fun pre : List Int => pre.length) (fun pre : List Int => pre.map (Value.int .i64)) (fun _ _ => True)) _) (OwnFrom.and (ownFrom_below (Nat.le_refl _) (by simp; omega)) (fun _ _ _ _ hs hg _ => Nat.le_trans hs hg.size)))
    (fun _ _ _ _ _ hs _ _ => hs)
    ⟨⟨_, bO.alloc _, World.ownsRow_nil _ _ _ _, trivial⟩, hB0, by simp⟩
    (fun v => { tmps := #[.pointer (some ⟨b, 0, none⟩), undef, .pointer (some ⟨w.heap.size, 0, none⟩), .int .i64 v, .pointer (some ⟨b, 0, none⟩), .func (.func 38) #[] #[.pointer (some ⟨w.heap.size + 1, 0, none⟩)], .int .i64 v, undef, undef, undef, undef, undef], defers := [] }) ?assign ?body ?done ?stop
  case assign =>
    intro l x W K hK
    gi_wp2
    exact hK
  case body =>
    rintro l pre x W ⟨⟨v, hv, hrow, _⟩, hB, hsz⟩ hlt
    have hc := hv.cell
    gi_wp2_with (gi_at_builtin; refine wpListIn_append_own _ rfl _ _ 47 rfl (w.heap.size + 2) 3 i0 (.int .i64 0) 1 8 Try.underlying47 hi hz0 hz1 hz2 rfl (by decide) _ _ _ rfl (hrow.alloc _) ⟨W.heap.size, 0, none⟩ 1 1 [.int .i64 x] rfl rfl (cell_one_new _ _ _) (by simp [Value.oneCell']) (by unfold maxLen; omega) (by omega) (by simp; omega) ?_; intro v' w1 hown' hgrow _; obtain ⟨g', cap', rfl⟩ := ownsRow_succ hown'; obtain ⟨hv1, hv2, hr2, hk2, hs2, hb2⟩ := appended2 hv (by decide) hrow hsz hown' hgrow; have hc1 := hv1.cell; have hf1 := hv1.frozen)
    exact ⟨hk2.from _, hs2, ⟨_, hv2, by simpa using hr2, trivial⟩, hB.trans (hb2 _ (Nat.le_refl _) (by omega)), Nat.le_trans hsz hs2.size⟩
  case done =>
    rintro D ys W hD hys ⟨⟨v, hv, hrow, _⟩, hB, hsz⟩ hK
    have Hys := Lib.hid hys
    clear hys
    obtain ⟨a, cap, rfl⟩ := ownsRow_slice hrow
    have hc := hv.cell
    have hf := hv.frozen
    gi_wp2
    have hv2 := hv.set (.slice a ys.length cap)
    have hr2 := hrow.kept (grownBy_setCell' W w.heap.size (.slice a ys.length cap)) (.inr (hv.not_row (by decide) hrow).symm)
    have hK2 := (KeepsOthers.setCell W ⟨w.heap.size, 0, none⟩ (.slice a ys.length cap)).same D _ hK rfl
    refine ⟨by simp, .inl ⟨_, _, rfl, run_takeDeferred hK2, ?_⟩⟩
    have hD' : w.heap.size + 2 ≤ D := by simpa using hD
    have hv3 : Boxed ((W.setCell ⟨w.heap.size, 0, none⟩ (.slice a ys.length cap)).putObj D (.deferred none)) w.heap.size 47 (.slice a ys.length cap) := hv2.kept (grownBy_putObj' _ D _) (by intro e; cases e; omega)
    have hc3 := hv3.cell
    refine ⟨.slice a ys.length cap, ?_, .slice a ys.length cap, rfl, ?_, ?_⟩
    · rw [results_cell1 rfl]
      simp [go_sem, hc3]
    · rw [← Hys.out]; exact ownsRow_base (ownsRow_putObj hr2 _ hK2 rfl) (by omega)
    · exact (hB.setCell (p := ⟨w.heap.size, 0, none⟩) (Nat.le_refl _) _).trans ((Below.refl _ _).grown (grownBy_putObj' _ D _) (by simp [World.setCell]; omega) (fun k e => by cases e; omega))
  case stop =>
    rintro D c pre W _ _ h _
    exact h.elim
end Go.Proofs.Ytmmaankgoinijaa
