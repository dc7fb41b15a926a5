/- The walks of the document's window: Top, has, May, Take, List. -/
import Derived.Test.YtmmaankgoinijaaPeer
import Derived.Test.YtmmaankgoinijaaWinMath
import Derived.Test.YtmmaankgoinijaaWinL
namespace Go.Proofs.Ytmmaankgoinijaa
open Go.RowKit Go.Lib

def RWin (w : World) (base b : Nat) (L : List Int) : Prop :=
  ∃ v, w.heap[b]? = some (.cells #[v] 59 (0, 0)) ∧ w.ownsRow base 3 1 v L.length (L.map (Value.int .i64)) ∧ L.length ≤ 1000

theorem RWin.cell {w : World} {base b : Nat} {L : List Int} (h : RWin w base b L) : ∃ v, w.cell? ⟨b, 0, none⟩ = some v ∧ Ints w v L ∧ (∃ a cap, v = .slice a L.length cap) := by
  obtain ⟨v, h1, h2, _⟩ := h
  exact ⟨v, by simp [World.cell?, h1], Ints.of_owns h2, ownsRow_slice h2⟩
theorem RWin.kept {w w' : World} {base b : Nat} {L : List Int} {S : Nat → Prop} (h : RWin w base b L) (ho : Only S w w') (hb : ¬ S b) (hS : ∀ k, base ≤ k → k < w.heap.size → ¬ S k) : RWin w' base b L := by
  obtain ⟨v, h1, h2, h3⟩ := h
  exact ⟨v, ho.obj h1 hb, ho.owns h2 (fun k hk => hS k (h2.lt k hk).1 (h2.lt k hk).2), h3⟩

def maxV (a b : Int) : Int := if a < b then b else a
def topL (L : List Int) : Int := L.foldl maxV 0

set_option maxHeartbeats 1000000 in
theorem rTop_any (base b : Nat) (L : List Int) (w : World) (h : RWin w base b L) : Calls Try.prog 33 #[.pointer (some ⟨b, 0, none⟩)] w fun e w' => e = .returned (.int .i64 (topL L)) ∧ ∃ q, w' = w.drewN q := by
  have hlen : L.length ≤ 1000 := by obtain ⟨_, _, _, h⟩ := h; exact h
  obtain ⟨v, hc, hv, a, cap, rfl⟩ := h.cell
  obtain ⟨a', cap', e, _, ha⟩ := hv
  injection e with e _ e3
  subst e e3
  obtain ⟨P, hP⟩ : ∃ P, topL L = P := ⟨_, rfl⟩
  rw [hP]
  have HP := Lib.hid hP
  clear hP h
  go_enter Try.func33, Try.ntmps33
  go_wp2
  go_loopw [3, 4] (fun n i wr => ∃ (k : Nat) (m : Int), k ≤ L.length ∧ i = .int .i64 k ∧ n = .int .i64 m ∧ (L.drop k).foldl maxV m = P ∧ ∃ q, wr = w.drewN q) (fun _ i _ => L.length - (intOf i).toNat)
  case atStart => exact ⟨0, 0, by omega, rfl, rfl, HP.out, 0, rfl⟩
  case round =>
    obtain ⟨k, m, hk, rfl, rfl, hr, q, rfl⟩ := hrel
    by_cases hlt : k < L.length
    · obtain ⟨g, o, rfl, hcc⟩ := ha (by omega)
      have hck := hcc k hlt
      clear hcc
      have he : L.drop k = L.getD k 0 :: L.drop (k + 1) := by
        rw [List.drop_eq_getElem_cons hlt, List.getD_eq_getElem?_getD, List.getElem?_eq_getElem hlt]; rfl
      rw [he, List.foldl_cons] at hr
      have HR := Lib.hid hr
      clear hr he
      generalize L.getD k 0 = x at *
      by_cases hx : m < x
      · have HM := Lib.hid (show maxV m x = x by rw [maxV, if_pos hx])
        go_wp2
        exact ⟨⟨k + 1, x, by omega, by go_num, rfl, by rw [← HM.out]; exact HR.out, _, rfl⟩, by simp [intOf]; omega⟩
      · have HM := Lib.hid (show maxV m x = m by rw [maxV, if_neg hx])
        go_wp2
        exact ⟨⟨k + 1, m, by omega, by go_num, rfl, (congrArg (fun z => List.foldl maxV z (L.drop (k + 1))) HM.out).symm.trans HR.out, _, rfl⟩, by simp [intOf]; omega⟩
    · have hp : P = m := by rw [← hr, List.drop_of_length_le (by omega)]; rfl
      have HQ := Lib.hid hp
      clear hp hr
      go_wp2
      go_ret
      exact ⟨by rw [HQ.out]; rfl, _, rfl⟩

set_option maxHeartbeats 1000000 in
theorem rhas_any (base b : Nat) (L : List Int) (n : Int) (w : World) (h : RWin w base b L) : Calls Try.prog 34 #[.pointer (some ⟨b, 0, none⟩), .int .i64 n] w fun e w' => e = .returned (.bool (L.any fun x => x == n)) ∧ ∃ q, w' = w.drewN q := by
  have hlen : L.length ≤ 1000 := by obtain ⟨_, _, _, h⟩ := h; exact h
  obtain ⟨v, hc, hv, a, cap, rfl⟩ := h.cell
  obtain ⟨a', cap', e, _, ha⟩ := hv
  injection e with e _ e3
  subst e e3
  obtain ⟨P, hP⟩ : ∃ P, (L.any fun x => x == n) = P := ⟨_, rfl⟩
  rw [hP]
  have HP := Lib.hid hP
  clear hP h
  go_enter Try.func34, Try.ntmps34
  go_wp2
  go_loopw [5] (fun i wr => ∃ (k : Nat), k ≤ L.length ∧ i = .int .i64 k ∧ ((L.drop k).any fun x => x == n) = P ∧ ∃ q, wr = w.drewN q) (fun i _ => L.length - (intOf i).toNat)
  case atStart => exact ⟨0, by omega, rfl, HP.out, 0, rfl⟩
  case round =>
    obtain ⟨k, hk, rfl, hr, q, rfl⟩ := hrel
    by_cases hlt : k < L.length
    · obtain ⟨g, o, rfl, hcc⟩ := ha (by omega)
      have hck := hcc k hlt
      clear hcc
      have he : L.drop k = L.getD k 0 :: L.drop (k + 1) := by
        rw [List.drop_eq_getElem_cons hlt, List.getD_eq_getElem?_getD, List.getElem?_eq_getElem hlt]; rfl
      rw [he, List.any_cons] at hr
      have HR := Lib.hid hr
      clear hr he
      generalize L.getD k 0 = x at *
      by_cases hx : x = n
      · subst hx
        have hp : P = true := by rw [← HR.out]; simp
        have HQ := Lib.hid hp
        clear hp
        go_wp2
        go_ret
        exact ⟨by rw [HQ.out]; rfl, _, rfl⟩
      · have hx' : (x == n) = false := by simpa using hx
        have HQ := Lib.hid (show ((L.drop (k + 1)).any fun x => x == n) = P by rw [← HR.out, hx']; rfl)
        clear hx
        go_wp2
        exact ⟨⟨k + 1, by omega, by go_num, HQ.out, _, rfl⟩, by simp [intOf]; omega⟩
    · have hp : P = false := by rw [← hr, List.drop_of_length_le (by omega)]; rfl
      have HQ := Lib.hid hp
      clear hp hr
      go_wp2
      go_ret
      exact ⟨by rw [HQ.out]; rfl, _, rfl⟩
end Go.Proofs.Ytmmaankgoinijaa
