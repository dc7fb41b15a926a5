/- The walk of the ledger's mayBe. -/
import Derived.Test.YtkjfagchololbaaLDec
import Derived.Deep.CutRange
import Derived.Deep.DeepCutAuto
import Derived.Deep.RegionHeld3
import Derived.Deep.RegionWith
namespace Go.Proofs.Ytkjfagchololbaa
open Go.RowKit

def be2 (bad : Int) (a : Act') : Bool := !txnB a.c a.e a.q || inB bad a.c
def be4 (a : Act') (ko : Bool) : Bool := (ko && (decide (sizeB a.orgs < 1) || decide (6 < sizeB a.orgs) || inB a.orgs a.c)) || (!ko && decide (0 < sizeB a.orgs))
def be5 (bad : Int) (a : Act') (kr : Bool) : Bool := (kr && (decide (a.org < 0) || decide (8 ≤ a.org) || decide (a.org = a.c) || inB bad a.org)) || (!kr && decide (a.org ≠ 0))
def mayBeB (bad : Int) (a : Act') (ko kr ky : Bool) : Bool := !(be2 bad a || (!ky && a.yes) || be4 a ko || be5 bad a kr)

theorem txnB_c {c e q : Int} (h : txnB c e q = true) : 0 ≤ c ∧ c ≤ 7 := by
  unfold txnB orgB at h
  simp at h
  omega

set_option maxRecDepth 100000 in
set_option maxHeartbeats 4000000 in
theorem mayBe_any (gb : Nat) (bad : Int) (a : Act') (ko kr ky : Bool) (x y : Nat) (w : World) (hg : w.cell? ⟨gb, 0, none⟩ = some (.int .u8 bad)) (hs0 : 0 ≤ a.orgs) (hs1 : a.orgs ≤ 255) :
    Calls Try.prog 45 #[.pointer (some ⟨gb, 0, none⟩), actV a, kindRow ko kr ky x y] w fun e w' => e = .returned (.bool (mayBeB bad a ko kr ky)) ∧ Below w.heap.size w w' := by
  have hglt : gb < w.heap.size := World.block_lt_of_cell? w _ hg
  obtain ⟨kind, c, e, q, org, ayes, aorgs⟩ := a
  dsimp only at hs0 hs1
  unfold actV kindRow
  dsimp only
  obtain ⟨v2, hv2⟩ : ∃ v, be2 bad ⟨kind, c, e, q, org, ayes, aorgs⟩ = v := ⟨_, rfl⟩
  obtain ⟨v4, hv4⟩ : ∃ v, be4 ⟨kind, c, e, q, org, ayes, aorgs⟩ ko = v := ⟨_, rfl⟩
  obtain ⟨v5, hv5⟩ : ∃ v, be5 bad ⟨kind, c, e, q, org, ayes, aorgs⟩ kr = v := ⟨_, rfl⟩
  have hr : mayBeB bad ⟨kind, c, e, q, org, ayes, aorgs⟩ ko kr ky = !(v2 || (!ky && ayes) || v4 || v5) := by rw [← hv2, ← hv4, ← hv5]; rfl
  rw [hr]
  have H2 := Lib.hid hv2
  have H4 := Lib.hid hv4
  have H5 := Lib.hid hv5
  clear hr hv2 hv4 hv5
  go_enter Try.func45, Try.ntmps45
  go_wp2_with (go_at_call 56; refine (ones_any aorgs _ hs0 hs1).mono ?_; rintro e w' ⟨rfl, rfl⟩)
  have hA : ((w.alloc (.cells #[.int .u8 kind, .int .i64 c, .int .i64 e, .int .i64 q, .int .i64 org, .bool ayes, .int .u8 aorgs] 33)).alloc (.cells #[.bool ko, .bool kr, .bool ky, .func (.func x) #[] #[], .func (.func y) #[] #[]] 99)).heap[w.heap.size]? = some (.cells #[.int .u8 kind, .int .i64 c, .int .i64 e, .int .i64 q, .int .i64 org, .bool ayes, .int .u8 aorgs] 33 (0, 0)) := (heap_alloc_old _ _ _ (by simp)).trans (heap_alloc_new _ _)
  have hK : ((w.alloc (.cells #[.int .u8 kind, .int .i64 c, .int .i64 e, .int .i64 q, .int .i64 org, .bool ayes, .int .u8 aorgs] 33)).alloc (.cells #[.bool ko, .bool kr, .bool ky, .func (.func x) #[] #[], .func (.func y) #[] #[]] 99)).heap[w.heap.size + 1]? = some (.cells #[.bool ko, .bool kr, .bool ky, .func (.func x) #[] #[], .func (.func y) #[] #[]] 99 (0, 0)) := heap_at _ _ _ (by simp)
  have hW := ((Only.refl (fun _ : Nat => False) w).alloc (.cells #[.int .u8 kind, .int .i64 c, .int .i64 e, .int .i64 q, .int .i64 org, .bool ayes, .int .u8 aorgs] 33)).alloc (.cells #[.bool ko, .bool kr, .bool ky, .func (.func x) #[] #[], .func (.func y) #[] #[]] 99)
  have hB : Below w.heap.size w ((w.alloc (.cells #[.int .u8 kind, .int .i64 c, .int .i64 e, .int .i64 q, .int .i64 org, .bool ayes, .int .u8 aorgs] 33)).alloc (.cells #[.bool ko, .bool kr, .bool ky, .func (.func x) #[] #[], .func (.func y) #[] #[]] 99)) := ((Below.refl _ _).alloc (Nat.le_refl _) _).alloc (by simp) _
  have hg' := hW.cell hg id
  generalize (w.alloc (.cells #[.int .u8 kind, .int .i64 c, .int .i64 e, .int .i64 q, .int .i64 org, .bool ayes, .int .u8 aorgs] 33)).alloc (.cells #[.bool ko, .bool kr, .bool ky, .func (.func x) #[] #[], .func (.func y) #[] #[]] 99) = W at *
  generalize hab : w.heap.size = ab at *
  generalize ab + 1 = kb at *
  have HAB := Lib.hid hab
  clear hW hg hglt hab
  have go : ∀ (V : World), Only (fun _ => False) W V → (V.cell? ⟨gb, 0, none⟩ = some (.int .u8 bad) ∧ V.cell? ⟨ab, 1, none⟩ = some (.int .i64 c) ∧ V.cell? ⟨ab, 2, none⟩ = some (.int .i64 e) ∧ V.cell? ⟨ab, 3, none⟩ = some (.int .i64 q)) ∧ (V.cell? ⟨ab, 4, none⟩ = some (.int .i64 org) ∧ V.cell? ⟨ab, 5, none⟩ = some (.bool ayes) ∧ V.cell? ⟨ab, 6, none⟩ = some (.int .u8 aorgs)) ∧ (V.cell? ⟨kb, 0, none⟩ = some (.bool ko) ∧ V.cell? ⟨kb, 1, none⟩ = some (.bool kr) ∧ V.cell? ⟨kb, 2, none⟩ = some (.bool ky)) := by
    intro V h
    have h1 := h.obj hA id
    have h2 := h.obj hK id
    refine ⟨⟨h.cell hg' id, ?_, ?_, ?_⟩, ⟨?_, ?_, ?_⟩, ?_, ?_, ?_⟩ <;> simp [World.cell?, h1, h2]
  clear hA hK hg'
  have HG := Lib.hid go
  clear go
  go_upto_region 2 with fail
  go_cut [11] (fun v wx => v = .bool v2 ∧ Only (fun _ => False) W wx)
  case first =>
    obtain ⟨⟨x0, x1, x2, x3⟩, _, _⟩ := HG.out W (Only.refl _ _)
    cases ht : txnB c e q
    · have HT := Lib.hid ht
      have HV := Lib.hid (show v2 = true by rw [← H2.out]; simp [be2, ht])
      clear ht
      first
        | (go_region_with (first | (go_at_call 57; refine (txn_is c e q false HT.out _).mono ?_; rintro r wT ⟨rfl, hBT⟩; have hT : Only (fun _ => False) W wT := (fun h => ⟨h.os, h.tape, h.output, h.size, h.block⟩) (Only.of_below hBT))))
        | fail
      all_goals go_wp2_with fail
      all_goals go_meet
      all_goals (case rel => exact ⟨by rw [HV.out], hT⟩)
    · have HT := Lib.hid ht
      obtain ⟨c0, c7⟩ := txnB_c ht
      have HV := Lib.hid (show inB bad c = v2 by rw [← H2.out]; simp [be2, ht])
      clear ht
      go_region_held3 (fun w' => w'.cell? ⟨gb, 0, none⟩ = some (.int .u8 bad) ∧ w'.cell? ⟨ab, 1, none⟩ = some (.int .i64 c) ∧ w'.cell? ⟨ab, 2, none⟩ = some (.int .i64 e) ∧ w'.cell? ⟨ab, 3, none⟩ = some (.int .i64 q)) (first | exact ⟨x0, x1, x2, x3⟩ | exact ⟨hT.cell x0 id, hT.cell x1 id, hT.cell x2 id, hT.cell x3 id⟩)
        (first | (go_at_call 57; refine (txn_is c e q true HT.out _).mono ?_; rintro r wT ⟨rfl, hBT⟩; have hT : Only (fun _ => False) W wT := (fun h => ⟨h.os, h.tape, h.output, h.size, h.block⟩) (Only.of_below hBT)) | (go_at_call 58; refine (in_is bad c v2 HV.out _ c0 c7).mono ?_; rintro r wT ⟨rfl, rfl⟩))
      all_goals go_wp2_with fail
      all_goals go_meet
      all_goals (case rel => exact ⟨rfl, hT⟩)
  case rest =>
    obtain ⟨rfl, hW⟩ := hcut
    obtain ⟨w2, rfl⟩ : ∃ w2 : World, w2 = wc := ⟨_, rfl⟩
    have hB2 : Below w.heap.size w w2 := by rw [HAB.out]; exact hB.trans (hW.below (by rw [← HAB.out]; exact hB.size) (fun _ h => h.elim))
    obtain ⟨⟨x0, x1, x2, x3⟩, ⟨x4, x5, x6⟩, y0, y1, y2⟩ := HG.out w2 hW
    clear HG hW hB
    cases v2
    · have ht : txnB c e q = true := by
        have := H2.out
        cases h : txnB c e q
        · simp [be2, h] at this
        · rfl
      obtain ⟨c0, c7⟩ := txnB_c ht
      clear ht
      cases hy : (!ky && ayes)
      · have hy' : ky = true ∨ ayes = false := by cases ky <;> cases ayes <;> simp_all
        go_upto_region 3 with fail
        go_cut [11] (fun v wx => v = .bool false ∧ wx = w2)
        case first =>
          cases ky
          · cases ayes
            · go_wp2_with fail
              go_meet
              case rel => exact ⟨rfl, rfl⟩
            · simp at hy
          · go_wp2_with fail
            go_meet
            case rel => exact ⟨rfl, rfl⟩
        case rest =>
          obtain ⟨rfl, rfl⟩ := hcut
          obtain ⟨w2, rfl⟩ : ∃ w2 : World, w2 = wc := ⟨_, rfl⟩
          clear hy'
          have hcb : 0 ≤ c ∧ c ≤ 7 := ⟨c0, c7⟩
          go_upto_region 4 with fail
          go_cut [11] (fun v wx => v = .bool v4 ∧ wx = w2)
          case first =>
            cases ko
            · have HV := Lib.hid (show decide (0 < sizeB aorgs) = v4 by rw [← H4.out]; simp [be4])
              go_wp2_with fail
              go_meet
              case rel => exact ⟨by rw [HV.out], rfl⟩
            · by_cases hn1 : sizeB aorgs < 1
              · have HV := Lib.hid (show v4 = true by rw [← H4.out]; simp [be4, hn1])
                go_wp2_with fail
                go_meet
                case rel => exact ⟨by rw [HV.out], rfl⟩
              · by_cases hn6 : 6 < sizeB aorgs
                · have HV := Lib.hid (show v4 = true by rw [← H4.out]; simp [be4, hn6])
                  have hn1' : 1 ≤ sizeB aorgs := by omega
                  clear hn1
                  go_wp2_with fail
                  go_meet
                  case rel => exact ⟨by rw [HV.out], rfl⟩
                · have HV := Lib.hid (show inB aorgs c = v4 by rw [← H4.out]; simp [be4, hn1, hn6])
                  have hn1' : 1 ≤ sizeB aorgs := by omega
                  have hn6' : sizeB aorgs ≤ 6 := by omega
                  have hd1 : decide (sizeB aorgs < 1) = false := by simpa using hn1
                  have hd6 : decide (6 < sizeB aorgs) = false := by simpa using hn6
                  clear hn1 hn6
                  cases v4
                  · go_wp2_with (go_at_call 58; refine (in_is aorgs c false HV.out _ c0 c7).mono ?_; rintro r wT ⟨rfl, rfl⟩)
                    go_meet
                    case rel => exact ⟨rfl, rfl⟩
                  · go_wp2_with (go_at_call 58; refine (in_is aorgs c true HV.out _ c0 c7).mono ?_; rintro r wT ⟨rfl, rfl⟩)
                    go_meet
                    case rel => exact ⟨rfl, rfl⟩
          case rest =>
            obtain ⟨rfl, rfl⟩ := hcut
            obtain ⟨w2, rfl⟩ : ∃ w2 : World, w2 = wc := ⟨_, rfl⟩
            cases v4
            · have HY := Lib.hid hy
              clear hy
              go_upto_region 5 with fail
              go_cut [11] (fun v wx => v = .bool v5 ∧ Only (fun _ => False) w2 wx)
              case first =>
                have hrefl := Only.refl (fun _ : Nat => False) w2
                cases kr
                · by_cases ho : org = 0
                  · subst ho
                    have HV := Lib.hid (show v5 = false by rw [← H5.out]; simp [be5])
                    go_quiet (fail)
                    go_wp2_with fail
                    go_meet
                    case rel => exact ⟨by rw [HV.out], hrefl.drewN _⟩
                  · have HV := Lib.hid (show v5 = true by rw [← H5.out]; simp [be5, ho])
                    have ho' : (org != 0) = true := by simpa using ho
                    clear ho
                    go_quiet (fail)
                    go_wp2_with fail
                    go_meet
                    case rel => exact ⟨by rw [HV.out], hrefl.drewN _⟩
                · by_cases h0 : org < 0
                  · have HV := Lib.hid (show v5 = true by rw [← H5.out]; simp [be5, h0])
                    have hd : decide (org < 0) = true := by simpa using h0
                    go_quiet (fail)
                    go_wp2_with fail
                    go_meet
                    case rel => exact ⟨by rw [HV.out], hrefl.drewN _⟩
                  · have hd : decide (org < 0) = false := by simpa using h0
                    by_cases h8 : 8 ≤ org
                    · have HV := Lib.hid (show v5 = true by rw [← H5.out]; simp [be5, h8])
                      have hd8 : decide (8 ≤ org) = true := by simpa using h8
                      clear h0
                      go_quiet (fail)
                      go_wp2_with fail
                      go_meet
                      case rel => exact ⟨by rw [HV.out], hrefl.drewN _⟩
                    · have hd8 : decide (8 ≤ org) = false := by simpa using h8
                      by_cases hc : org = c
                      · have HV := Lib.hid (show v5 = true by rw [← H5.out]; simp [be5, hc])
                        have hce : (org == c) = true := by simpa using hc
                        clear h0 h8 hc
                        go_quiet (fail)
                        go_wp2_with fail
                        go_meet
                        case rel => exact ⟨by rw [HV.out], hrefl.drewN _⟩
                      · have HV := Lib.hid (show inB bad org = v5 by rw [← H5.out]; simp [be5, h0, h8, hc])
                        have hce : (org == c) = false := by simpa using hc
                        have o0 : 0 ≤ org := by omega
                        have o7 : org ≤ 7 := by omega
                        clear h0 h8 hc
                        cases v5
                        all_goals
                          go_quiet (first | (with_reducible refine (in_is bad org _ HV.out _ o0 o7).mono fun _ _ h => ⟨h.1, _, h.2.symm⟩))
                          go_wp2_with fail
                          go_meet
                          case rel => exact ⟨rfl, hrefl.drewN _⟩
              case rest =>
                obtain ⟨rfl, hW3⟩ := hcut
                have hB3 := hB2.trans (hW3.below hB2.size (fun _ h => h.elim))
                cases v5
                all_goals
                  go_wp2_with fail
                  go_ret
                  exact ⟨ret_bool (by rw [HY.out]; rfl), hB3⟩
            · clear hy
              go_wp2_with fail
              go_ret
              exact ⟨ret_bool (show false = _ by simp), hB2⟩
      · obtain ⟨rfl, rfl⟩ : ky = false ∧ ayes = true := by cases ky <;> cases ayes <;> simp_all
        go_wp2_with fail
        go_ret
        exact ⟨rfl, hB2⟩
    · go_wp2_with fail
      go_ret
      exact ⟨ret_bool (show false = _ by simp), hB2⟩
end Go.Proofs.Ytkjfagchololbaa
