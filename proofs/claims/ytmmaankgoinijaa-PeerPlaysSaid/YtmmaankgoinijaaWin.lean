/- The walks of package window: what New, Top, May and Take answer, and what they leave in memory: at a window that lies in a block of its own, its top at most 65535. -/
import Derived.Test.YtmmaankgoinijaaProg
import Derived.WalkKit
import Derived.WalkSpells
import Derived.WalkLawsBesides
import Derived.Deep.QuietTactic
import Derived.BigQuiet
import Derived.Lib.Hide
import Derived.IntWalk
namespace Go.Proofs.Ytmmaankgoinijaa
open Go.RowKit

/-- A window lies in block b: its top, its marks. -/
def Win (w : World) (b : Nat) (t g : Int) : Prop := w.heap[b]? = some (.cells #[.int .i64 t, .int .u64 g] 64 (0, 0))

theorem Win.lt {w : World} {b : Nat} {t g : Int} (h : Win w b t g) : b < w.heap.size := (Array.getElem?_eq_some_iff.1 h).1
theorem Win.cell0 {w : World} {b : Nat} {t g : Int} (h : Win w b t g) : w.cell? ⟨b, 0, none⟩ = some (.int .i64 t) := by simp [World.cell?, show w.heap[b]? = _ from h]
theorem Win.cell1 {w : World} {b : Nat} {t g : Int} (h : Win w b t g) : w.cell? ⟨b, 1, none⟩ = some (.int .u64 g) := by simp [World.cell?, show w.heap[b]? = _ from h]
theorem Win.frozen {w : World} {b : Nat} {t g : Int} (h : Win w b t g) (o : Nat) : w.frozen? ⟨b, o, none⟩ = false := by simp [World.frozen?, show w.heap[b]? = _ from h]
theorem Win.kept {w w' : World} {b : Nat} {t g : Int} {row : Option Nat} (h : Win w b t g) (hg : w.grownBy w' row) (hne : some b ≠ row) : Win w' b t g := (hg.block b h.lt hne).trans h
theorem Win.drewN {w : World} {b : Nat} {t g : Int} (h : Win w b t g) (q : Nat) : Win (w.drewN q) b t g := h
theorem Win.set0 {w : World} {b : Nat} {t g : Int} (h : Win w b t g) (u : Int) : Win (w.setCell ⟨b, 0, none⟩ (.int .i64 u)) b u g := by
  obtain ⟨hlt, hk⟩ := Array.getElem?_eq_some_iff.1 h
  show (w.heap.modify b _)[b]? = _
  rw [Array.getElem?_eq_getElem (by rw [Array.size_modify]; exact hlt), Array.getElem_modify_self, hk]
  rfl
theorem Win.set1 {w : World} {b : Nat} {t g : Int} (h : Win w b t g) (u : Int) : Win (w.setCell ⟨b, 1, none⟩ (.int .u64 u)) b t u := by
  obtain ⟨hlt, hk⟩ := Array.getElem?_eq_some_iff.1 h
  show (w.heap.modify b _)[b]? = _
  rw [Array.getElem?_eq_getElem (by rw [Array.size_modify]; exact hlt), Array.getElem_modify_self, hk]
  rfl

theorem grownBy_refl (w : World) (row : Option Nat) : w.grownBy w row := ⟨rfl, rfl, rfl, Nat.le_refl _, fun _ _ _ => rfl⟩
theorem grownBy_trans {a b c : World} {row : Option Nat} (h : a.grownBy b row) (k : b.grownBy c row) : a.grownBy c row :=
  ⟨k.os.trans h.os, k.tape.trans h.tape, k.output.trans h.output, Nat.le_trans h.size k.size, fun i hi hne => (k.block i (Nat.lt_of_lt_of_le hi h.size) hne).trans (h.block i hi hne)⟩
theorem grownBy_drewN (w : World) (q : Nat) (row : Option Nat) : w.grownBy (w.drewN q) row := ⟨rfl, rfl, rfl, Nat.le_refl _, fun _ _ _ => rfl⟩
theorem grownBy_setAt (w : World) (b o : Nat) (v : Value) : w.grownBy (w.setCell ⟨b, o, none⟩ v) (some b) :=
  ⟨rfl, rfl, rfl, by simp [World.setCell], fun k _ hk => Below.heap_setCell _ _ _ k (fun e => hk (by rw [e]))⟩

/-- Is nonce 'top - k' marked? As the walk spells it. -/
def marked (g : Int) (k : Nat) : Bool := bits BinOp.and IntKind.u64 (g / 2 ^ k) 1 == 1

/-- What May answers. -/
def mayV (t g n : Int) : Int :=
  if n < 1 ∨ 65535 < n then 2 else if 64 ≤ t - n then 180 else if n ≤ t ∧ marked g (t - n).toNat = true then 9 else 0

/-- The top, and the marks, behind a Take. -/
def nxtT (t g n : Int) : Int := if mayV t g n = 0 ∧ t < n then n else t
def nxtG (t g n : Int) : Int :=
  if mayV t g n = 0 then (if t < n then bits BinOp.or IntKind.u64 (IntKind.u64.wrap (g * 2 ^ min (n - t).toNat 64)) 1 else bits BinOp.or IntKind.u64 g (IntKind.u64.wrap (2 ^ (t - n).toNat))) else g

theorem ret_int {k : IntKind} {a b : Int} (h : a = b) : Ending.returned (.int k a) = .returned (.int k b) := by rw [h]

theorem new_any (w : World) : Calls Try.prog 23 #[] w fun e w' =>
    e = .returned (.pointer (some ⟨w.heap.size, 0, none⟩)) ∧ w.alloc (.cells #[.int .i64 0, .int .u64 0] 64) = w' := by
  go_enter Try.func23, Try.ntmps23
  go_wp2
  go_ret
  exact ⟨rfl, rfl⟩

theorem Win.new (w : World) : Win (w.alloc (.cells #[.int .i64 0, .int .u64 0] 64)) w.heap.size 0 0 := heap_alloc_new w _

set_option maxHeartbeats 400000 in
theorem may_any (b : Nat) (t g n : Int) (w : World) (h0 : w.cell? ⟨b, 0, none⟩ = some (.int .i64 t)) (h1 : w.cell? ⟨b, 1, none⟩ = some (.int .u64 g))
   (ht0 : 0 ≤ t) (ht1 : t ≤ 65535) (hb : -9223372036854775808 ≤ n ∧ n ≤ 9223372036854775807) :
   Calls Try.prog 35 #[.pointer (some ⟨b, 0, none⟩), .int .i64 n] w fun e w' =>
    e = .returned (.int .i64 (mayV t g n)) ∧ ∃ q, w' = w.drewN q := by
  by_cases hr : n < 1 ∨ 65535 < n
  · rcases hr with hr | hr
    · go_enter Try.func35, Try.ntmps35
      go_wp2
      go_ret
      exact ⟨ret_int (by simp [mayV, hr]), 0, rfl⟩
    · go_enter Try.func35, Try.ntmps35
      go_wp2
      go_ret
      exact ⟨ret_int (by simp [mayV, hr]), 0, rfl⟩
  · have hn0 : 1 ≤ n := by omega
    have hn1 : n ≤ 65535 := by omega
    clear hb hr
    by_cases hh : 64 ≤ t - n
    · go_enter Try.func35, Try.ntmps35
      go_wp2
      go_ret
      exact ⟨ret_int (by unfold mayV; rw [if_neg (by omega), if_pos hh]), 0, rfl⟩
    · have hh' : t - n < 64 := by omega
      clear hh
      by_cases hle : n ≤ t
      · go_enter Try.func35, Try.ntmps35
        go_wp2
        go_quiet (fail)
        go_wp2
        all_goals go_ret
        · exact ⟨ret_int (by unfold mayV marked; rw [if_neg (by omega), if_neg (by omega), if_pos ⟨hle, by assumption⟩]), _, rfl⟩
        · exact ⟨ret_int (by unfold mayV marked; rw [if_neg (by omega), if_neg (by omega), if_neg]; intro h; simp_all), _, rfl⟩
      · have hd : decide (n ≤ t) = false := by simpa using hle
        go_enter Try.func35, Try.ntmps35
        go_wp2
        go_quiet (fail)
        go_wp2
        go_ret
        exact ⟨ret_int (by unfold mayV; rw [if_neg (by omega), if_neg (by omega), if_neg (by omega)]), _, rfl⟩

/-- Take, refused. -/
theorem take_no (b : Nat) (t g n : Int) (w : World) (h0 : w.cell? ⟨b, 0, none⟩ = some (.int .i64 t)) (h1 : w.cell? ⟨b, 1, none⟩ = some (.int .u64 g))
   (ht0 : 0 ≤ t) (ht1 : t ≤ 65535) (hb : -9223372036854775808 ≤ n ∧ n ≤ 9223372036854775807) (v : Int) (hv : mayV t g n = v) (hne : (v != 0) = true) :
   Calls Try.prog 27 #[.pointer (some ⟨b, 0, none⟩), .int .i64 n] w fun e w' =>
    e = .returned (.int .i64 v) ∧ ∃ q, w' = w.drewN q := by
  have H := Lib.hid hv
  clear hv
  go_enter Try.func27, Try.ntmps27
  go_wp2_with (go_at_call 35; refine (may_any _ _ _ _ _ h0 h1 ht0 ht1 hb).mono ?_; rw [H.out]; rintro e w' ⟨rfl, q, rfl⟩)
  go_ret
  exact ⟨rfl, _, rfl⟩

/-- Take, taken, at or below the top. -/
theorem take_old (b : Nat) (t g n : Int) (w : World) (h0 : w.cell? ⟨b, 0, none⟩ = some (.int .i64 t)) (h1 : w.cell? ⟨b, 1, none⟩ = some (.int .u64 g))
   (f1 : w.frozen? ⟨b, 1, none⟩ = false)
   (ht0 : 0 ≤ t) (ht1 : t ≤ 65535) (hv : mayV t g n = 0) (hn0 : 1 ≤ n) (hle : n ≤ t) (hd : t - n < 64) :
   Calls Try.prog 27 #[.pointer (some ⟨b, 0, none⟩), .int .i64 n] w fun e w' =>
    e = .returned (.int .i64 0) ∧ ∃ q, w' = (w.drewN q).setCell ⟨b, 1, none⟩ (.int .u64 (bits BinOp.or IntKind.u64 g (IntKind.u64.wrap (2 ^ (t - n).toNat)))) := by
  have H := Lib.hid hv
  clear hv
  go_enter Try.func27, Try.ntmps27
  go_wp2_with (go_at_call 35; refine (may_any _ _ _ _ _ h0 h1 ht0 ht1 (by omega)).mono ?_; rw [H.out]; rintro e w' ⟨rfl, q, rfl⟩)
  go_region
  all_goals go_wp2
  all_goals go_ret
  all_goals exact ⟨rfl, _, rfl⟩

/-- Take, taken, above the top. -/
theorem take_new (b : Nat) (t g n : Int) (w : World) (h0 : w.cell? ⟨b, 0, none⟩ = some (.int .i64 t)) (h1 : w.cell? ⟨b, 1, none⟩ = some (.int .u64 g))
   (f0 : w.frozen? ⟨b, 0, none⟩ = false) (f1 : w.frozen? ⟨b, 1, none⟩ = false)
   (ht0 : 0 ≤ t) (ht1 : t ≤ 65535) (hv : mayV t g n = 0) (hn0 : 1 ≤ n) (hle : t < n) (hn1 : n ≤ 65535) :
   Calls Try.prog 27 #[.pointer (some ⟨b, 0, none⟩), .int .i64 n] w fun e w' =>
    e = .returned (.int .i64 0) ∧ ∃ q q', w' = ((((w.drewN q).setCell ⟨b, 1, none⟩ (.int .u64 (IntKind.u64.wrap (g * 2 ^ min (n - t).toNat 64)))).setCell ⟨b, 0, none⟩ (.int .i64 n)).setCell ⟨b, 1, none⟩ (.int .u64 (bits BinOp.or IntKind.u64 (IntKind.u64.wrap (g * 2 ^ min (n - t).toNat 64)) 1))).drewN q' := by
  have H := Lib.hid hv
  clear hv
  have e2 : t ≤ n := by omega
  have e1 : IntKind.i64.wrap (n - t) = n - t := IntWalk.i64_in _ (by omega)
  go_enter Try.func27, Try.ntmps27
  go_wp2_with (go_at_call 35; refine (may_any _ _ _ _ _ h0 h1 ht0 ht1 (by omega)).mono ?_; rw [H.out]; rintro e w' ⟨rfl, q, rfl⟩)
  go_region
  all_goals go_wp2
  all_goals go_region
  all_goals go_wp2
  all_goals go_ret
  all_goals exact ⟨rfl, _, 1, rfl⟩

theorem mayV_zero {t g n : Int} (h : mayV t g n = 0) : 1 ≤ n ∧ n ≤ 65535 ∧ t - n < 64 := by
  unfold mayV at h
  split at h
  · omega
  · split at h
    · omega
    · exact ⟨by omega, by omega, by omega⟩

/-- **Take**: its answer; the window behind it; nothing else has turned. -/
theorem take_any (b : Nat) (t g n : Int) (w : World) (hW : Win w b t g) (ht0 : 0 ≤ t) (ht1 : t ≤ 65535) (hb : -9223372036854775808 ≤ n ∧ n ≤ 9223372036854775807) :
   Calls Try.prog 27 #[.pointer (some ⟨b, 0, none⟩), .int .i64 n] w fun e w' =>
    e = .returned (.int .i64 (mayV t g n)) ∧ Win w' b (nxtT t g n) (nxtG t g n) ∧ w.grownBy w' (some b) := by
  by_cases hv : mayV t g n = 0
  · obtain ⟨h1, h2, h3⟩ := mayV_zero hv
    by_cases hle : t < n
    · refine (take_new b t g n w hW.cell0 hW.cell1 (hW.frozen 0) (hW.frozen 1) ht0 ht1 hv h1 hle h2).mono ?_
      rintro e w' ⟨rfl, q, q', rfl⟩
      refine ⟨ret_int hv.symm, ?_, ?_⟩
      · rw [nxtT, if_pos ⟨hv, hle⟩, nxtG, if_pos hv, if_pos hle]
        exact ((((hW.drewN q).set1 _).set0 _).set1 _).drewN _
      · exact grownBy_trans (grownBy_trans (grownBy_trans (grownBy_trans (grownBy_drewN _ _ _) (grownBy_setAt _ _ _ _)) (grownBy_setAt _ _ _ _)) (grownBy_setAt _ _ _ _)) (grownBy_drewN _ _ _)
    · refine (take_old b t g n w hW.cell0 hW.cell1 (hW.frozen 1) ht0 ht1 hv h1 (by omega) h3).mono ?_
      rintro e w' ⟨rfl, q, rfl⟩
      refine ⟨ret_int hv.symm, ?_, ?_⟩
      · rw [nxtT, if_neg (fun h => hle h.2), nxtG, if_pos hv, if_neg hle]
        exact (hW.drewN q).set1 _
      · exact grownBy_trans (grownBy_drewN _ _ _) (grownBy_setAt _ _ _ _)
  · refine (take_no b t g n w hW.cell0 hW.cell1 ht0 ht1 hb _ rfl (by rw [bne_iff_ne]; exact hv)).mono ?_
    rintro e w' ⟨rfl, q, rfl⟩
    refine ⟨rfl, ?_, grownBy_drewN _ _ _⟩
    rw [nxtT, if_neg (fun h => hv h.1), nxtG, if_neg hv]
    exact hW.drewN q
end Go.Proofs.Ytmmaankgoinijaa
