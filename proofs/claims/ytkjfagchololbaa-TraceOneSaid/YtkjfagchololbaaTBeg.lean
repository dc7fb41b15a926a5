/- The walk of the trace's begun. -/
import Derived.Test.YtkjfagchololbaaTHst
namespace Go.Proofs.Ytkjfagchololbaa
open Go.RowKit

theorem MemAt.below {w w' : World} {B : Nat} {av : Option Addr} {ms : List (Int × ByteArray)} (h : MemAt w B av ms) (hB : Below B w w') : MemAt w' B av ms :=
  ⟨fun h0 => by
    obtain ⟨b, o, h1, h2, h3⟩ := h.r h0
    exact ⟨b, o, h1, h2, fun i m hi => ⟨(hB.cell (p := ⟨b, o + i * 2, none⟩) h2).trans (h3 i m hi).1, (hB.cell (p := ⟨b, o + i * 2 + 1, none⟩) h2).trans (h3 i m hi).2⟩⟩⟩

theorem MemAt.mono {w : World} {B B' : Nat} {av : Option Addr} {ms : List (Int × ByteArray)} (h : MemAt w B av ms) (hB : B ≤ B') : MemAt w B' av ms :=
  ⟨fun h0 => by
    obtain ⟨b, o, h1, h2, h3⟩ := h.r h0
    exact ⟨b, o, h1, by omega, h3⟩⟩

theorem cells7_get {w : World} {b : Nat} {cs : Array Value} {t : TypeId} {fr : Nat × Nat} (h : w.heap[b]? = some (.cells cs t fr)) (j : Nat) : w.cell? ⟨b, j, none⟩ = cs[j]? := by
  simp [World.cell?, h]
theorem setBlk {w : World} {p o : Nat} {cs : Array Value} {t : TypeId} {v : Value} (h : w.heap[p]? = some (.cells cs t (0, 0))) : (w.setCell ⟨p, o, none⟩ v).heap[p]? = some (.cells (cs.setIfInBounds o v) t (0, 0)) := by
  obtain ⟨hlt, hk⟩ := Array.getElem?_eq_some_iff.1 h
  show (w.heap.modify p _)[p]? = _
  rw [Array.getElem?_eq_getElem (by rw [Array.size_modify]; exact hlt), Array.getElem_modify_self, hk]
  first | rfl | simp

set_option maxRecDepth 100000 in
set_option maxHeartbeats 4000000 in
theorem begun_any (x : Ev) (w : World) (hx : EvWf x) (hm : MemAt w w.heap.size x.av x.ms) :
    Calls Try.prog 22 #[evV x] w fun e w' => e = .returned (actV ⟨1, x.c, x.e, x.q, 0, false, setM x.ms⟩) ∧ Below w.heap.size w w' := by
  have hlen := hx.len
  unfold maxLen at hlen
  have HW := Lib.hid hx.m
  clear hx
  obtain ⟨kind, act, org, c, e, q, rk, rep, rc, re, rq, ry, ra, rm, rt, rb, xc, xe, xq, xa, av, mcap, xt, ms⟩ := x
  unfold evV evC actV
  dsimp only at *
  go_enter Try.func22, Try.ntmps22
  go_wp2
  have hA : ((((w.alloc (.cells #[.int .u8 kind, .int .i64 act, .int .i64 org, .int .i64 c, .int .i64 e, .int .i64 q, .int .u8 rk, .int .i64 rep, .int .i64 rc, .int .i64 re, .int .i64 rq, .bool ry, .int .i64 ra, rm, rt, rb, .int .i64 xc, .int .i64 xe, .int .i64 xq, .int .i64 xa, .slice av ms.length mcap, xt] 43)).alloc (.cells #[.int .u8 0, .int .i64 0, .int .i64 0, .int .i64 0, .int .i64 0, .bool false, .int .u8 0] 33)).alloc (.cells #[.int .u8 1, .int .i64 c, .int .i64 e, .int .i64 q, .int .i64 0, .bool false, .int .u8 0] 33))).heap[w.heap.size + 1 + 1]? = some (.cells #[.int .u8 1, .int .i64 c, .int .i64 e, .int .i64 q, .int .i64 0, .bool false, .int .u8 0] 33 (0, 0)) := heap_at _ _ _ (by simp)
  have hR : ((((w.alloc (.cells #[.int .u8 kind, .int .i64 act, .int .i64 org, .int .i64 c, .int .i64 e, .int .i64 q, .int .u8 rk, .int .i64 rep, .int .i64 rc, .int .i64 re, .int .i64 rq, .bool ry, .int .i64 ra, rm, rt, rb, .int .i64 xc, .int .i64 xe, .int .i64 xq, .int .i64 xa, .slice av ms.length mcap, xt] 43)).alloc (.cells #[.int .u8 0, .int .i64 0, .int .i64 0, .int .i64 0, .int .i64 0, .bool false, .int .u8 0] 33)).alloc (.cells #[.int .u8 1, .int .i64 c, .int .i64 e, .int .i64 q, .int .i64 0, .bool false, .int .u8 0] 33))).heap[w.heap.size + 1]? = some (.cells #[.int .u8 0, .int .i64 0, .int .i64 0, .int .i64 0, .int .i64 0, .bool false, .int .u8 0] 33 (0, 0)) := by
    rw [heap_alloc_old _ _ (by simp)]
    exact heap_at _ _ _ (by simp)
  have hB : Below w.heap.size w ((((w.alloc (.cells #[.int .u8 kind, .int .i64 act, .int .i64 org, .int .i64 c, .int .i64 e, .int .i64 q, .int .u8 rk, .int .i64 rep, .int .i64 rc, .int .i64 re, .int .i64 rq, .bool ry, .int .i64 ra, rm, rt, rb, .int .i64 xc, .int .i64 xe, .int .i64 xq, .int .i64 xa, .slice av ms.length mcap, xt] 43)).alloc (.cells #[.int .u8 0, .int .i64 0, .int .i64 0, .int .i64 0, .int .i64 0, .bool false, .int .u8 0] 33)).alloc (.cells #[.int .u8 1, .int .i64 c, .int .i64 e, .int .i64 q, .int .i64 0, .bool false, .int .u8 0] 33))) := (((Below.refl _ w).alloc (Nat.le_refl _) _).alloc (by simp) _).alloc (by simp; omega) _
  generalize (((w.alloc (.cells #[.int .u8 kind, .int .i64 act, .int .i64 org, .int .i64 c, .int .i64 e, .int .i64 q, .int .u8 rk, .int .i64 rep, .int .i64 rc, .int .i64 re, .int .i64 rq, .bool ry, .int .i64 ra, rm, rt, rb, .int .i64 xc, .int .i64 xe, .int .i64 xq, .int .i64 xa, .slice av ms.length mcap, xt] 43)).alloc (.cells #[.int .u8 0, .int .i64 0, .int .i64 0, .int .i64 0, .int .i64 0, .bool false, .int .u8 0] 33)).alloc (.cells #[.int .u8 1, .int .i64 c, .int .i64 e, .int .i64 q, .int .i64 0, .bool false, .int .u8 0] 33)) = W at *
  have HN := Lib.hid (show w.heap.size ≤ w.heap.size from Nat.le_refl _)
  obtain ⟨n, hn⟩ : ∃ n, w.heap.size = n := ⟨_, rfl⟩
  rw [hn] at hA hR hB hm ⊢
  clear HN
  have HN := Lib.hid hn
  clear hn
  have HM := Lib.hid hm
  clear hm
  go_loopw [13] (fun v13 wr => ∃ j : Nat, j ≤ ms.length ∧ v13 = .int .i64 j ∧ wr.heap[n + 1 + 1]? = some (.cells #[.int .u8 1, .int .i64 c, .int .i64 e, .int .i64 q, .int .i64 0, .bool false, .int .u8 (setM (ms.take j))] 33 (0, 0)) ∧ wr.heap[n + 1]? = some (.cells #[.int .u8 0, .int .i64 0, .int .i64 0, .int .i64 0, .int .i64 0, .bool false, .int .u8 0] 33 (0, 0)) ∧ Below n w wr) (fun v13 _ => ms.length - (intOf v13).toNat)
  case atStart => exact ⟨0, by omega, rfl, hA, hR, hB⟩
  case round =>
    clear hA hR hB
    obtain ⟨j, hj, rfl, hA, hR, hB⟩ := hrel
    obtain ⟨w1, rfl⟩ : ∃ w1 : World, w1 = wr := ⟨_, rfl⟩
    have hsz := hB.size
    have hal : n + 1 + 1 < w1.heap.size := (Array.getElem?_eq_some_iff.1 hA).1
    have hpl : n + 1 < w1.heap.size := (Array.getElem?_eq_some_iff.1 hR).1
    by_cases hlt : j < ms.length
    · obtain ⟨b, o, rfl, hb, hc⟩ := HM.out.r (by omega)
      obtain ⟨m, hmj⟩ : ∃ m, ms[j]? = some m := ⟨_, List.getElem?_eq_getElem hlt⟩
      obtain ⟨c0, c1⟩ := hc j m hmj
      have hmw := HW.out m (List.mem_of_getElem? hmj)
      have HS := Lib.hid (setM_snoc ms j m hmj)
      replace c0 := (hB.cell (p := ⟨b, o + j * 2, none⟩) hb).trans c0
      replace c1 := (hB.cell (p := ⟨b, o + j * 2 + 1, none⟩) hb).trans c1
      have d6 : (w1.alloc (.cells #[.int .i64 m.1, .string m.2] 60)).cell? ⟨n + 1 + 1, 6, none⟩ = some (.int .u8 (setM (ms.take j))) := by
        rw [World.cell?_of_block (a := ⟨n + 1 + 1, 6, none⟩) (Below.heap_alloc _ _ _ hal), cells7_get hA]; rfl
      have hf6 : w1.frozen? ⟨n + 1 + 1, 6, none⟩ = false := by simp [World.frozen?, hA]
      have HA := Lib.hid hA
      have HR := Lib.hid hR
      clear hc hmj hA hR
      obtain ⟨mo, md⟩ := m
      dsimp only at *
      by_cases hin : 0 ≤ mo ∧ mo < 8
      · obtain ⟨h0, h8⟩ := hin
        go_wp2
        go_region
        go_wp2
        have h1 := setBlk (o := 6) (v := .int .u8 (setStep (setM (ms.take j)) (mo, md))) HA.out
        have h2 := (Below.heap_setCell w1 ⟨n + 1 + 1, 6, none⟩ (.int .u8 (setStep (setM (ms.take j)) (mo, md))) (n + 1) (show n + 1 ≠ n + 1 + 1 by omega)).trans HR.out
        have h3 := hB.setCell (p := ⟨n + 1 + 1, 6, none⟩) (show n ≤ n + 1 + 1 by omega) (.int .u8 (setStep (setM (ms.take j)) (mo, md)))
        rw [← HS.out] at h1 h2 h3
        have e6 : IntKind.u8.wrap (2 ^ mo.toNat) = 2 ^ mo.toNat % 256 := IntKind.wrap_u8 _
        have e7 : setM (ms.take (j + 1)) = bits BinOp.or IntKind.u8 (setM (ms.take j)) (2 ^ mo.toNat % 256) := by rw [HS.out, setStep, if_pos ⟨h0, h8⟩, e6]
        rw [e7] at h1 h2 h3
        refine ⟨⟨j + 1, by omega, by go_num, ?_, ?_, ?_⟩, by simp [intOf]; omega⟩
        · rw [e7]
          exact (Below.heap_alloc _ _ _ (by simp [World.setCell]; omega)).trans h1
        · exact (Below.heap_alloc _ _ _ (by simp [World.setCell]; omega)).trans h2
        · exact below_drewN (h3.alloc (by simp [World.setCell]; omega) _) 1
      · have HT := Lib.hid (show setStep (setM (ms.take j)) (mo, md) = setM (ms.take j) by rw [setStep, if_neg hin])
        have hA1 := (Below.heap_alloc w1 (.cells #[.int .i64 mo, .string md] 60) _ hal).trans HA.out
        have hR1 := (Below.heap_alloc w1 (.cells #[.int .i64 mo, .string md] 60) _ hpl).trans HR.out
        have hB1 := hB.alloc (by omega) (.cells #[.int .i64 mo, .string md] 60)
        by_cases h0 : 0 ≤ mo
        · have h8 : ¬ mo < 8 := fun h => hin ⟨h0, h⟩
          go_wp2
          exact ⟨⟨j + 1, by omega, by go_num, by rw [HS.out, HT.out]; exact hA1, hR1, hB1⟩, by simp [intOf]; omega⟩
        · go_wp2
          exact ⟨⟨j + 1, by omega, by go_num, by rw [HS.out, HT.out]; exact hA1, hR1, hB1⟩, by simp [intOf]; omega⟩
    · obtain rfl : j = ms.length := by omega
      rw [List.take_length] at hA
      have d0 := cells7_get hA 0
      have d1 := cells7_get hA 1
      have d2 := cells7_get hA 2
      have d3 := cells7_get hA 3
      have d4 := cells7_get hA 4
      have d5 := cells7_get hA 5
      have d6 := cells7_get hA 6
      have e0 := cells7_get hR 0
      have e1 := cells7_get hR 1
      have e2 := cells7_get hR 2
      have e3 := cells7_get hR 3
      have e4 := cells7_get hR 4
      have e5 := cells7_get hR 5
      have e6 := cells7_get hR 6
      simp only [List.getElem?_toArray, List.getElem?_cons_zero, List.getElem?_cons_succ] at d0 d1 d2 d3 d4 d5 d6 e0 e1 e2 e3 e4 e5 e6
      have f0 : w1.frozen? ⟨n + 1, 0, none⟩ = false := by simp [World.frozen?, hR]
      have f1 : w1.frozen? ⟨n + 1, 1, none⟩ = false := by simp [World.frozen?, hR]
      have f2 : w1.frozen? ⟨n + 1, 2, none⟩ = false := by simp [World.frozen?, hR]
      have f3 : w1.frozen? ⟨n + 1, 3, none⟩ = false := by simp [World.frozen?, hR]
      have f4 : w1.frozen? ⟨n + 1, 4, none⟩ = false := by simp [World.frozen?, hR]
      have f5 : w1.frozen? ⟨n + 1, 5, none⟩ = false := by simp [World.frozen?, hR]
      have f6 : w1.frozen? ⟨n + 1, 6, none⟩ = false := by simp [World.frozen?, hR]
      clear hA hR hlt
      go_wp2
      refine bodyPost_ret (v := .agg #[.int .u8 1, .int .i64 c, .int .i64 e, .int .i64 q, .int .i64 0, .bool false, .int .u8 (setM ms)]) (by simp [results, Try.results22, go_sem, e0, e1, e2, e3, e4, e5, e6]) rfl ?_
      refine ⟨rfl, ?_⟩
      rw [HN.out]
      iterate 7 (refine Below.setCell ?_ (show n ≤ n + 1 by omega) _)
      exact hB
end Go.Proofs.Ytkjfagchololbaa
