/- The walks of package peer: New, Hear, Take, Stamp. -/
import Derived.Test.YtmmaankgoinijaaWinL
import Derived.Test.YtmmaankgoinijaaInts
import Derived.Test.YtmmaankgoinijaaOnly
namespace Go.Proofs.Ytmmaankgoinijaa
open Go.RowKit

/-- Are all from 1 to most? -/
def allIn (most : Int) (xs : List Int) : Bool := xs.all fun x => decide (1 ≤ x) && decide (x ≤ most)

set_option maxHeartbeats 400000 in
theorem within_any (most : Int) (xs : List Int) (w : World) (v : Value) (hv : Ints w v xs) :
    Calls Try.prog 22 #[.int .i64 most, v] w fun e w' => e = .returned (.bool (allIn most xs)) ∧ w = w' := by
  obtain ⟨a, cap, rfl, hm, ha⟩ := hv
  unfold maxLen at hm
  go_enter Try.func22, Try.ntmps22
  go_wp2
  go_loop [9] (fun i => ∃ k : Nat, k ≤ xs.length ∧ i = .int .i64 k ∧ allIn most (xs.take k) = true) (fun i => xs.length - (intOf i).toNat)
  case atStart => exact ⟨0, Nat.zero_le _, rfl, rfl⟩
  case round =>
    obtain ⟨k, hk, rfl, hall⟩ := hrel
    by_cases hlt : k < xs.length
    · obtain ⟨b, o, rfl, hc⟩ := ha (by omega)
      have h1 := hc k hlt
      clear hc ha
      have hs : xs.take (k + 1) = xs.take k ++ [xs.getD k 0] := by
        rw [List.take_succ_eq_append_getElem hlt, List.getD_eq_getElem?_getD, List.getElem?_eq_getElem hlt]; rfl
      have hmem : xs.getD k 0 ∈ xs := by
        rw [List.getD_eq_getElem?_getD, List.getElem?_eq_getElem hlt]; exact List.getElem_mem _
      have HS := Lib.hid (And.intro hs hmem)
      clear hs hmem
      have HA := Lib.hid hall
      clear hall
      generalize xs.getD k 0 = x at h1 HS
      by_cases hx : 1 ≤ x ∧ x ≤ most
      · obtain ⟨hx1, hx2⟩ := hx
        go_wp2
        go_round
        case rel => exact ⟨k + 1, by omega, by go_num, by rw [HS.out.1]; have := HA.out; unfold allIn at this ⊢; rw [List.all_append, this]; simp [hx1, hx2]⟩
        case measure => simp [intOf]; omega
      · have hf : allIn most xs = false := by
          unfold allIn
          rw [List.all_eq_false]
          exact ⟨x, HS.out.2, by simp; omega⟩
        have HF := Lib.hid hf
        clear hf
        by_cases hx1 : x < 1
        · go_wp2
          go_ret
          exact ⟨by rw [HF.out]; rfl, rfl⟩
        · have hx2 : most < x := by omega
          go_wp2
          go_ret
          exact ⟨by rw [HF.out]; rfl, rfl⟩
    · have hf : allIn most xs = true := by rw [← List.take_of_length_le (l := xs) (i := k) (by omega)]; exact hall
      have HF := Lib.hid hf
      clear hf hall
      go_wp2
      go_ret
      exact ⟨by rw [HF.out]; rfl, rfl⟩

/-- What a peer's cells hold, and its window's. -/
structure PS where
  own : Int
  known : Int
  sent : Int
  t : Int
  g : Int

def PeerAt (w : World) (p bw : Nat) (s : PS) : Prop :=
  w.heap[p]? = some (.cells #[.pointer (some ⟨bw, 0, none⟩), .int .i64 s.own, .int .i64 s.known, .int .i64 s.sent] 54 (0, 0)) ∧ Win w bw s.t s.g

structure PBd (s : PS) : Prop where
  o1 : 1 ≤ s.own
  o2 : s.own ≤ 255
  k1 : 1 ≤ s.known
  k2 : s.known ≤ 255
  s1 : 0 ≤ s.sent
  s2 : s.sent ≤ 65535
  t1 : 0 ≤ s.t
  t2 : s.t ≤ 65535
  tg : s.t = 0 → s.g = 0

def ps0 (own : Int) : PS := ⟨own, 1, 0, 0, 0⟩
def hearS (s : PS) (x : Int) : PS := if s.known < x then { s with known := x, t := 0, g := 0 } else s
def okE (x : Int) : Bool := decide (1 ≤ x) && decide (x ≤ 255)
def okN (x : Int) : Bool := decide (1 ≤ x) && decide (x ≤ 65535)
def hearV (s : PS) (x : Int) : Int := if okE x = false then 2 else if x < s.known then 180 else 0
def hearT (s : PS) (x : Int) : PS := if hearV s x = 0 then hearS s x else s

theorem PeerAt.cells {w : World} {p bw : Nat} {s : PS} (h : PeerAt w p bw s) : w.cell? ⟨p, 0, none⟩ = some (.pointer (some ⟨bw, 0, none⟩)) ∧ w.cell? ⟨p, 1, none⟩ = some (.int .i64 s.own) ∧ w.cell? ⟨p, 2, none⟩ = some (.int .i64 s.known) ∧ w.cell? ⟨p, 3, none⟩ = some (.int .i64 s.sent) := by
  have h1 := h.1
  refine ⟨?_, ?_, ?_, ?_⟩ <;> simp [World.cell?, h1]
theorem PeerAt.frozen {w : World} {p bw : Nat} {s : PS} (h : PeerAt w p bw s) (o : Nat) : w.frozen? ⟨p, o, none⟩ = false := by simp [World.frozen?, h.1]
theorem PeerAt.ne {w : World} {p bw : Nat} {s : PS} (h : PeerAt w p bw s) : p ≠ bw := block_ne h.1 h.2 (by decide)
theorem PeerAt.lt {w : World} {p bw : Nat} {s : PS} (h : PeerAt w p bw s) : p < w.heap.size := (Array.getElem?_eq_some_iff.1 h.1).1
theorem PeerAt.kept {w w' : World} {p bw : Nat} {s : PS} {S : Nat → Prop} (h : PeerAt w p bw s) (ho : Only S w w') (hp : ¬ S p) (hb : ¬ S bw) : PeerAt w' p bw s :=
  ⟨ho.obj h.1 hp, ho.obj h.2 hb⟩
theorem set_cells {w : World} {p o : Nat} {cs : Array Value} {t : TypeId} {v : Value} (h : w.heap[p]? = some (.cells cs t (0, 0))) : (w.setCell ⟨p, o, none⟩ v).heap[p]? = some (.cells (cs.setIfInBounds o v) t (0, 0)) := by
  obtain ⟨hlt, hk⟩ := Array.getElem?_eq_some_iff.1 h
  show (w.heap.modify p _)[p]? = _
  rw [Array.getElem?_eq_getElem (by rw [Array.size_modify]; exact hlt), Array.getElem_modify_self, hk]
  first | rfl | simp

/-- New, of a life that may be. -/
theorem newPeer_yes (own : Int) (w : World) (h1 : 1 ≤ own) (h2 : own ≤ 255) :
    Calls Try.prog 7 #[.int .i64 own] w fun e w' => e = .returned (.tuple #[.pointer (some ⟨w.heap.size + 1 + 1, 0, none⟩), .int .i64 0]) ∧ PeerAt w' (w.heap.size + 1 + 1) (w.heap.size + 1) (ps0 own) ∧ Below w.heap.size w w' := by
  have ha : allIn 255 [own] = true := by simp [allIn, h1, h2]
  have HA := Lib.hid ha
  clear ha
  have hI : Ints (w.alloc (.cells #[.int .i64 own] 3)) (.slice (some ⟨w.heap.size, 0, none⟩) 1 1) [own] :=
    ⟨_, 1, rfl, by simp [maxLen], fun _ => ⟨_, 0, rfl, fun i hi => by
      refine (cell_of_row _ _ (0 + i) _ _ _ (heap_alloc_new w _)).trans ?_
      match i, hi with
      | 0, _ => rfl⟩⟩
  go_enter Try.func7, Try.ntmps7
  go_wp2_with (first | (go_at_call 22; refine (within_any 255 [own] _ _ hI).mono ?_; rw [HA.out]; rintro e w' ⟨rfl, rfl⟩) | (go_at_call 23; refine (new_any _).mono ?_; rintro e w' ⟨rfl, rfl⟩))
  go_ret2
  refine ⟨by simp, ⟨heap_at _ _ _ (by simp), ?_⟩, ((((Below.refl _ _).alloc (Nat.le_refl _) _).alloc (by simp) _).alloc (by simp; omega) _)⟩
  rw [Win, heap_alloc_old _ _ _ (by simp)]
  exact heap_at _ _ _ (by simp)

/-- New, of a life that may not be. -/
theorem newPeer_no (own : Int) (w : World) (h : okE own = false) :
    Calls Try.prog 7 #[.int .i64 own] w fun e w' => e = .returned (.tuple #[.pointer none, .int .i64 2]) ∧ Below w.heap.size w w' := by
  have ha : allIn 255 [own] = false := by simpa [allIn, okE] using h
  have HA := Lib.hid ha
  clear ha h
  have hI : Ints (w.alloc (.cells #[.int .i64 own] 3)) (.slice (some ⟨w.heap.size, 0, none⟩) 1 1) [own] :=
    ⟨_, 1, rfl, by simp [maxLen], fun _ => ⟨_, 0, rfl, fun i hi => by
      refine (cell_of_row _ _ (0 + i) _ _ _ (heap_alloc_new w _)).trans ?_
      match i, hi with
      | 0, _ => rfl⟩⟩
  go_enter Try.func7, Try.ntmps7
  go_wp2_with (first | (go_at_call 22; refine (within_any 255 [own] _ _ hI).mono ?_; rw [HA.out]; rintro e w' ⟨rfl, rfl⟩) | (go_at_call 23; refine (new_any _).mono ?_; rintro e w' ⟨rfl, rfl⟩))
  go_ret2
  exact ⟨by simp, (Below.refl _ _).alloc (Nat.le_refl _) _⟩

set_option maxHeartbeats 1000000 in
/-- Hear, of a life that is not over. -/
theorem hear_any (p bw : Nat) (s : PS) (x : Int) (w : World) (hP : PeerAt w p bw s) (hS : PBd s) :
    Calls Try.prog 8 #[.pointer (some ⟨p, 0, none⟩), .int .i64 x] w fun e w' => e = .returned (.int .i64 (hearV s x)) ∧ ∃ bw', (bw' = bw ∨ w.heap.size ≤ bw') ∧ PeerAt w' p bw' (hearT s x) ∧ Only (fun k => k = p) w w' := by
  obtain ⟨c0, c1, c2, c3⟩ := hP.cells
  have f0 := hP.frozen 0
  have f2 := hP.frozen 2
  have hne := hP.ne
  have hlt := hP.lt
  have hI : Ints (w.alloc (.cells #[.int .i64 x] 3)) (.slice (some ⟨w.heap.size, 0, none⟩) 1 1) [x] :=
    ⟨_, 1, rfl, by simp [maxLen], fun _ => ⟨_, 0, rfl, fun i hi => by
      refine (cell_of_row _ _ (0 + i) _ _ _ (heap_alloc_new w _)).trans ?_
      match i, hi with
      | 0, _ => rfl⟩⟩
  obtain ⟨own, known, sent, t, g⟩ := s
  dsimp only at c1 c2 c3
  have k1 := hS.k1
  have k2 := hS.k2
  dsimp only at k1 k2
  by_cases hok : okE x = false
  · have ha : allIn 255 [x] = false := by simpa [allIn, okE] using hok
    have HA := Lib.hid ha
    have HV := Lib.hid (show hearV ⟨own, known, sent, t, g⟩ x = 2 by simp [hearV, hok])
    clear ha hok
    go_enter Try.func8, Try.ntmps8
    go_wp2_with (first | (go_at_call 22; refine (within_any 255 [x] _ _ hI).mono ?_; rw [HA.out]; rintro e w' ⟨rfl, rfl⟩))
    go_ret
    refine ⟨by rw [HV.out]; rfl, bw, .inl rfl, ?_, (Only.refl _ _).alloc _⟩
    rw [hearT, HV.out, if_neg (by decide)]
    exact hP.kept ((Only.refl (fun _ => False) _).alloc _) id id
  · have hok' : okE x = true := by simpa using hok
    have hx : 1 ≤ x ∧ x ≤ 255 := by simpa [okE] using hok'
    obtain ⟨hx1, hx2⟩ := hx
    have ha : allIn 255 [x] = true := by simpa [allIn, okE] using hok'
    have HA := Lib.hid ha
    have HK := Lib.hid hok'
    clear ha hok hok'
    rcases Int.lt_trichotomy x known with hlt' | heq | hgt
    · have HV := Lib.hid (show hearV ⟨own, known, sent, t, g⟩ x = 180 by rw [hearV, HK.out, if_neg (by decide), if_pos hlt'])
      go_enter Try.func8, Try.ntmps8
      go_wp2_with (first | (go_at_call 22; refine (within_any 255 [x] _ _ hI).mono ?_; rw [HA.out]; rintro e w' ⟨rfl, rfl⟩) | (go_at_call 23; refine (new_any _).mono ?_; rintro e w' ⟨rfl, rfl⟩) | go_in)
      go_ret
      refine ⟨by rw [HV.out]; rfl, bw, .inl rfl, ?_, (Only.refl _ _).alloc _⟩
      rw [hearT, HV.out, if_neg (by decide)]
      exact hP.kept ((Only.refl (fun _ => False) _).alloc _) id id
    · have HV := Lib.hid (show hearV ⟨own, known, sent, t, g⟩ x = 0 by rw [hearV, HK.out, if_neg (by decide), if_neg (by dsimp only; omega)])
      have HT := Lib.hid (show hearT ⟨own, known, sent, t, g⟩ x = ⟨own, known, sent, t, g⟩ by rw [hearT, HV.out, if_pos rfl, hearS, if_neg (by dsimp only; omega)])
      have hge : known ≤ x := by omega
      have hle : x ≤ known := by omega
      clear heq
      go_enter Try.func8, Try.ntmps8
      go_wp2_with (first | (go_at_call 22; refine (within_any 255 [x] _ _ hI).mono ?_; rw [HA.out]; rintro e w' ⟨rfl, rfl⟩) | (go_at_call 23; refine (new_any _).mono ?_; rintro e w' ⟨rfl, rfl⟩) | go_in)
      go_ret
      refine ⟨by rw [HV.out]; rfl, bw, .inl rfl, ?_, (Only.refl _ _).alloc _⟩
      rw [HT.out]
      exact hP.kept ((Only.refl (fun _ => False) _).alloc _) id id
    · have HV := Lib.hid (show hearV ⟨own, known, sent, t, g⟩ x = 0 by rw [hearV, HK.out, if_neg (by decide), if_neg (by dsimp only; omega)])
      have HT := Lib.hid (show hearT ⟨own, known, sent, t, g⟩ x = ⟨own, x, sent, 0, 0⟩ by rw [hearT, HV.out, if_pos rfl, hearS, if_pos hgt])
      go_enter Try.func8, Try.ntmps8
      go_wp2_with (first | (go_at_call 22; refine (within_any 255 [x] _ _ hI).mono ?_; rw [HA.out]; rintro e w' ⟨rfl, rfl⟩) | (go_at_call 23; refine (new_any _).mono ?_; rintro e w' ⟨rfl, rfl⟩) | go_in)
      go_ret
      refine ⟨by rw [HV.out]; rfl, w.heap.size + 1, .inr (by omega), ?_, (((((Only.refl _ _).setCell (by rfl) _).setCell (by rfl) _).alloc _).alloc _)⟩
      rw [HT.out]
      refine ⟨?_, ?_⟩
      · rw [heap_alloc_old _ _ _ (by simp [World.setCell]; omega), heap_alloc_old _ _ _ (by simp [World.setCell]; omega)]
        exact (set_cells (set_cells hP.1)).trans (by simp)
      · exact heap_at _ _ _ (by simp [World.setCell])
end Go.Proofs.Ytmmaankgoinijaa
