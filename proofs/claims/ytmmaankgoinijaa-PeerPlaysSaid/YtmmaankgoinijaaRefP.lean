/- The walks of the document's peer. -/
import Derived.Test.YtmmaankgoinijaaRefV
import Derived.Test.YtmmaankgoinijaaPeerT
namespace Go.Proofs.Ytmmaankgoinijaa
open Go.RowKit Go.Lib

structure RPeerAt (w : World) (base p bw : Nat) (v : Value) (s : PS) (L : List Int) : Prop where
  cells : w.heap[p]? = some (.cells #[.int .i64 s.own, .int .i64 s.known, .int .i64 s.sent, .pointer (some ⟨bw, 0, none⟩)] 45 (0, 0))
  win : RWinV w base bw v L
  inv : WInv s.t s.g L
  low : base ≤ p ∧ base ≤ bw

theorem RPeerAt.c {w : World} {base p bw : Nat} {v : Value} {s : PS} {L : List Int} (h : RPeerAt w base p bw v s L) : w.cell? ⟨p, 0, none⟩ = some (.int .i64 s.own) ∧ w.cell? ⟨p, 1, none⟩ = some (.int .i64 s.known) ∧ w.cell? ⟨p, 2, none⟩ = some (.int .i64 s.sent) ∧ w.cell? ⟨p, 3, none⟩ = some (.pointer (some ⟨bw, 0, none⟩)) := by
  have := h.cells
  simp [World.cell?, this]
theorem RPeerAt.frozen {w : World} {base p bw : Nat} {v : Value} {s : PS} {L : List Int} (h : RPeerAt w base p bw v s L) (o : Nat) : w.frozen? ⟨p, o, none⟩ = false := by simp [World.frozen?, h.cells]
theorem RPeerAt.kept {w w' : World} {base p bw : Nat} {v : Value} {s : PS} {L : List Int} {S : Nat → Prop} (h : RPeerAt w base p bw v s L) (ho : Only S w w') (hp : ¬ S p) (hb : ¬ S bw) (hv : ∀ k, v.ownBlock = some k → ¬ S k) : RPeerAt w' base p bw v s L :=
  ⟨ho.obj h.cells hp, ⟨ho.obj h.win.1 hb, ho.owns h.win.2 hv⟩, h.inv, h.low⟩

theorem repoch_any (n : Int) (w : World) : Calls Try.prog 28 #[.int .i64 n] w fun e w' => e = .returned (.bool (okE n)) ∧ w = w' := by
  by_cases h1 : n < 1
  · have HV := Lib.hid (show okE n = false by simp [okE]; omega)
    go_enter Try.func28, Try.ntmps28
    go_wp2
    go_ret
    exact ⟨by rw [HV.out]; rfl, rfl⟩
  · by_cases h2 : n ≤ 255
    · have HV := Lib.hid (show okE n = true by simp [okE]; omega)
      go_enter Try.func28, Try.ntmps28
      go_wp2
      go_ret
      exact ⟨by rw [HV.out]; rfl, rfl⟩
    · have HV := Lib.hid (show okE n = false by simp [okE]; omega)
      go_enter Try.func28, Try.ntmps28
      go_wp2
      go_ret
      exact ⟨by rw [HV.out]; rfl, rfl⟩
theorem repoch_is (n : Int) (v : Bool) (w : World) (h : okE n = v) : Calls Try.prog 28 #[.int .i64 n] w fun e w' => e = .returned (.bool v) ∧ w = w' := h ▸ repoch_any n w

theorem rlearn_lt (base p bw : Nat) (v : Value) (s : PS) (L : List Int) (x : Int) (w : World) (h : RPeerAt w base p bw v s L) (hx : x < s.known) :
    Calls Try.prog 29 #[.pointer (some ⟨p, 0, none⟩), .int .i64 x] w fun e w' => e = .returned (.bool false) ∧ w = w' := by
  obtain ⟨c0, c1, c2, c3⟩ := h.c
  go_enter Try.func29, Try.ntmps29
  go_wp2
  go_ret
  exact ⟨rfl, rfl⟩
theorem rlearn_eq (base p bw : Nat) (v : Value) (s : PS) (L : List Int) (x : Int) (w : World) (h : RPeerAt w base p bw v s L) (hx : x = s.known) :
    Calls Try.prog 29 #[.pointer (some ⟨p, 0, none⟩), .int .i64 x] w fun e w' => e = .returned (.bool true) ∧ w = w' := by
  obtain ⟨c0, c1, c2, c3⟩ := h.c
  rw [← hx] at c1
  go_enter Try.func29, Try.ntmps29
  go_wp2
  go_ret
  exact ⟨rfl, rfl⟩
set_option maxHeartbeats 1000000 in
theorem rlearn_gt (base p bw : Nat) (v : Value) (s : PS) (L : List Int) (x : Int) (w : World) (h : RPeerAt w base p bw v s L) (hx : s.known < x) (hbase : base ≤ w.heap.size) :
    Calls Try.prog 29 #[.pointer (some ⟨p, 0, none⟩), .int .i64 x] w fun e w' => e = .returned (.bool true) ∧ RPeerAt w' base p w.heap.size (.slice none 0 0) { s with known := x, t := 0, g := 0 } [] ∧ Only (fun k => k = p) w w' := by
  obtain ⟨c0, c1, c2, c3⟩ := h.c
  have f1 := h.frozen 1
  have f3 := h.frozen 3
  have hp : p < w.heap.size := (Array.getElem?_eq_some_iff.1 h.cells).1
  have h1 := set_cells (o := 1) (v := .int .i64 x) h.cells
  have h2 : ((w.setCell ⟨p, 1, none⟩ (.int .i64 x)).alloc (.cells #[.slice none 0 0] 59)).heap[p]? = some (.cells #[.int .i64 s.own, .int .i64 x, .int .i64 s.sent, .pointer (some ⟨bw, 0, none⟩)] 45 (0, 0)) := by
    rw [heap_alloc_old _ _ _ (by simp [World.setCell]; exact hp), h1]; simp
  have d3 : ((w.setCell ⟨p, 1, none⟩ (.int .i64 x)).alloc (.cells #[.slice none 0 0] 59)).cell? ⟨p, 3, none⟩ = some (.pointer (some ⟨bw, 0, none⟩)) := by simp [World.cell?, h2]
  have e3 : ((w.setCell ⟨p, 1, none⟩ (.int .i64 x)).alloc (.cells #[.slice none 0 0] 59)).frozen? ⟨p, 3, none⟩ = false := by simp [World.frozen?, h2]
  go_enter Try.func29, Try.ntmps29
  go_wp2
  go_ret
  have ho := (((Only.refl (fun k => k = p) w).setCell (p := ⟨p, 1, none⟩) rfl (.int .i64 x)).setCell (p := ⟨p, 3, none⟩) rfl (.pointer (some ⟨w.heap.size, 0, none⟩))).alloc (.cells #[.slice none 0 0] 59)
  refine ⟨rfl, ⟨?_, ⟨heap_at _ _ _ (by simp [World.setCell]), World.ownsRow_nil _ _ _ _⟩, WInv.zero, h.low.1, ?_⟩, ho⟩
  · rw [heap_alloc_old _ _ _ (by simp [World.setCell]; exact hp), set_cells h1]; simp
  · have := h.low.1; omega
end Go.Proofs.Ytmmaankgoinijaa
