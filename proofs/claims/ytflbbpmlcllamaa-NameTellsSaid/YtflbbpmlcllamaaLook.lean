/- The walks of name.Look, look, Skeleton, Clash. -/
import Derived.Test.YtflbbpmlcllamaaLooks
import Derived.Maps.AppendAt
import Derived.RangeFuncOwn
namespace Go.Proofs.Ytflbbpmlcllamaa
open Go.RowKit Go.Lib Go.Maps

def lookF (r : Int) : Option Int := fOf (pairsTo 15) r
def lookV (r : Int) : Int := (lookF r).getD r
def lookL (s : ByteArray) : List Int := (runes s).map lookV

theorem zero32 (w : World) : (zeroValue 21).run Try.prog w = .ok (.int .i32 0) w := by kernel_rfl

theorem Look_any (r : Int) (w : World) (hr : -2147483648 ≤ r ∧ r ≤ 2147483647) : Calls Try.prog 15 #[.int .i32 r] w fun e w' => e = .returned (.int .i32 (lookV r)) ∧ Below w.heap.size w w' := by
  have hs := DR_says (pairsTo 15).reverse r
  obtain ⟨hh, ha⟩ := hs
  have hkey : keyOf Try.prog 21 (.int .i32 r) = some (.int .i32 r) := keyOf_int_mk Try.underlying21 (wf_i32 hr)
  cases hf : lookF r with
  | some v =>
    have hv : lookV r = v := by rw [lookV, hf]; rfl
    have hf' : fR (pairsTo 15).reverse r = some v := hf
    rw [hf'] at hh
    simp only [hf'] at ha
    have hh' : Maps.has (DOf (pairsTo 15)) (.int .i32 r) = true := hh
    have HA := Lib.hid ha
    have HV := Lib.hid hv
    clear hh ha hf hf' hv
    go_enter Try.func15, Try.ntmps15
    go_wp2_with (first | (go_at_call 27; refine (looks_any _).mono ?_; rintro e w1 ⟨rfl, hown, hB⟩) | (at_lookup; refine wpList_lookup_own_ok_int _ rfl _ _ 43 rfl 21 21 .i32 law32 Try.underlying43 Try.underlying21 (zero32 _) w.heap.size 40 _ rfl hown _ _ rfl hkey ?_; intro c hat hwc; obtain rfl : v = c := by (have e := (HA.out _).symm.trans hat; injection e with e; injection e with _ e)))
    go_ret
    exact ⟨by rw [HV.out]; rfl, hB⟩
  | none =>
    have hv : lookV r = r := by rw [lookV, hf]; rfl
    have hf' : fR (pairsTo 15).reverse r = none := hf
    rw [hf'] at hh
    have hh' : Maps.has (DOf (pairsTo 15)) (.int .i32 r) = false := hh
    have HV := Lib.hid hv
    clear hh ha hf hf' hv
    go_enter Try.func15, Try.ntmps15
    go_wp2_with (first | (go_at_call 27; refine (looks_any _).mono ?_; rintro e w1 ⟨rfl, hown, hB⟩) | (at_lookup; refine wpList_lookup_own_ok_int _ rfl _ _ 43 rfl 21 21 .i32 law32 Try.underlying43 Try.underlying21 (zero32 _) w.heap.size 40 _ rfl hown _ _ rfl hkey ?_; intro c hat hwc))
    go_ret
    exact ⟨by rw [HV.out]; rfl, hB⟩

theorem info32 : (Try.prog.info? 21).map (fun i => (i.zero, i.size, i.bytes)) = some (some (.int .i32 0), 1, 4) := by kernel_rfl

theorem not_own {w : World} {base : Nat} {e : TypeId} {size : Nat} {v : Value} {n : Nat} {xs : List Value} (ho : w.ownsRow base e size v n xs) {k : Nat} {o : Obj} (hk : w.heap[k]? = some o) (hc : o.isCells = false) : ¬ v.ownBlock = some k := by
  intro hv
  rcases ho.2 with ⟨rfl, _⟩ | ⟨g, cap, cur, rfl, _, hgg, _⟩
  · simp [Value.ownBlock] at hv
  · simp [Value.ownBlock] at hv
    subst hv
    rw [hk] at hgg
    cases hgg
    cases hc

set_option maxHeartbeats 2000000 in
theorem look_any (s : ByteArray) (w : World) (hs : s.size ≤ 1024) : Calls Try.prog 21 #[.string s] w fun e w' => ∃ v, e = .returned v ∧ w'.ownsRow w.heap.size 21 1 v (lookL s).length ((lookL s).map (Value.int .i32)) ∧ Below w.heap.size w w' := by
  obtain ⟨i0, hi, hz0, hz1, hz2⟩ := info_parts info32
  go_enter Try.func21, Try.ntmps21
  go_wp2_with (go_at_call 27; refine (looks_any _).mono ?_; rintro e w1 ⟨rfl, hown, hB⟩)
  have hsz := hB.size
  have hmb : w.heap.size < w1.heap.size := by
    obtain ⟨_, _, hb, _⟩ := hown
    exact (Array.getElem?_eq_some_iff.1 hb).1
  go_loopw [4] (fun vo wr => ∃ (pos b : Nat) (acc : List Int), acc ++ (runesFrom s b pos).map lookV = lookL s ∧ acc.length ≤ pos ∧ acc.length ≤ s.size ∧ s.size ≤ pos + b ∧ wr.heap[w1.heap.size]? = some (.stringIter s pos) ∧
      wr.ownsMap Try.prog 21 (plainElem Try.prog 21) w.heap.size 40 (DOf (pairsTo 15)) ∧ wr.ownsRow w.heap.size 21 1 vo acc.length (acc.map (Value.int .i32)) ∧ Below w.heap.size w wr) (fun _ wr => s.size - wr.iterPos w1.heap.size)
  case atStart => exact ⟨0, s.size, [], rfl, by simp, by simp, by omega, World.iter_heap _ _ _, hown.kept' ((Only.refl (fun _ => False) w1).alloc _) id, World.ownsRow_nil _ _ _ _, hB.alloc hB.size _⟩
  case round =>
    obtain ⟨pos, b, acc, hacc, hap, has, hb, hit, hown, hrow, hB⟩ := hrel
    by_cases hp : pos < s.size
    · obtain ⟨b, rfl⟩ : ∃ m, b = m + 1 := ⟨b - 1, by omega⟩
      rw [runesFrom_step s b pos hp] at hacc
      have hnx := fun ty => run_next_any_at (P := Try.prog) wr w1.heap.size s pos ty hit hp
      have hwd := Lib.decode_width_pos s pos hp
      have hit2 := iterAt_heap wr w1.heap.size s pos (pos + (Utf8.decode s pos).2) hit
      have hoI : Only (fun k => k = w1.heap.size) wr (wr.iterAt w1.heap.size s (pos + (Utf8.decode s pos).2)) := ⟨rfl, rfl, rfl, by simp [World.iterAt], fun j hj hne => by simp only [World.iterAt, Array.getElem?_setIfInBounds]; rw [if_neg (fun e => hne e.symm)]⟩
      have hrow2 := hoI.owns hrow (fun k hk e => not_own hrow hit rfl (by rw [hk, e]))
      have hown2 := hown.kept' hoI (by show ¬ w.heap.size = w1.heap.size; omega)
      have hB2 := Below.iterAt hB hsz s (pos + (Utf8.decode s pos).2)
      have hip := iterPos_at hit
      have hrb : 0 ≤ ((Utf8.decode s pos).1 : Int) := by omega
      have hrb2 : ((Utf8.decode s pos).1 : Int) ≤ 2147483647 := by have := decode_le s pos; omega
      have HR := Lib.hid hacc
      have HIP := Lib.hid hip
      clear hacc hip
      generalize ((Utf8.decode s pos).1 : Int) = r at *
      generalize (Utf8.decode s pos).2 = wd at *
      have hlen : acc.length + 1 ≤ s.size := by
        have e := congrArg List.length HR.out
        have h2 : (lookL s).length ≤ s.size := by unfold lookL; rw [List.length_map]; exact runes_length s
        simp at e
        omega
      obtain ⟨hh, ha⟩ := DR_says (pairsTo 15).reverse r
      have hkey : keyOf Try.prog 21 (.int .i32 r) = some (.int .i32 r) := keyOf_int_mk Try.underlying21 (wf_i32 (by omega))
      cases hf : lookF r with
      | some v =>
        have hv : lookV r = v := by rw [lookV, hf]; rfl
        have hf' : fR (pairsTo 15).reverse r = some v := hf
        rw [hf'] at hh
        simp only [hf'] at ha
        have hh' : Maps.has (DOf (pairsTo 15)) (.int .i32 r) = true := hh
        have HA := Lib.hid ha
        have HV := Lib.hid hv
        clear hh ha hf hf' hv
        go_wp2_with (first | (at_lookup; refine wpList_lookup_own_ok_int _ rfl _ _ 43 rfl 21 21 .i32 law32 Try.underlying43 Try.underlying21 (zero32 _) w.heap.size 40 _ rfl hown2 _ _ rfl hkey ?_; intro c hat hwc; obtain rfl : v = c := by (have e := (HA.out _).symm.trans hat; injection e with e; injection e with _ e)) | (at_builtin; refine wpList_append_own _ rfl _ _ 36 rfl w.heap.size 21 i0 (.int .i32 0) 1 4 Try.underlying36 hi hz0 hz1 hz2 rfl (by decide) _ _ _ rfl (hrow2.alloc _) ⟨(wr.iterAt w1.heap.size s (pos + wd)).heap.size, 0, none⟩ 1 1 [.int .i32 v] rfl rfl (cell_one_new _ _ _) (by simp [Value.oneCell']) (by unfold maxLen; omega) (by omega) (by have := hB2.size; simp; omega) ?_; intro v' w2 hown' hgrow _))
        have hg2 : Only (fun k => u4.ownBlock = some k) (wr.iterAt w1.heap.size s (pos + wd)) w2 := ((Only.refl _ _).alloc _).grown hgrow (fun k e => e)
        have hit3 := hg2.obj hit2 (not_own hrow2 hit2 rfl)
        have hip3 := iterPos_at hit3
        have hnm : ¬ u4.ownBlock = some w.heap.size := by
          obtain ⟨es, ck, hmb', _⟩ := hown2
          exact not_own hrow2 hmb' rfl
        exact ⟨⟨pos + wd, b, acc ++ [v], by rw [← HR.out]; simp [HV.out], by simp; omega, by simp; omega, by omega, hit3, hown2.kept' hg2 hnm, by simpa using hown', hB2.trans (hg2.below hB2.size (fun k e => (hrow2.lt k e).1))⟩, by rw [hip3, HIP.out]; omega⟩
      | none =>
        have hv : lookV r = r := by rw [lookV, hf]; rfl
        have hf' : fR (pairsTo 15).reverse r = none := hf
        rw [hf'] at hh
        have hh' : Maps.has (DOf (pairsTo 15)) (.int .i32 r) = false := hh
        have HV := Lib.hid hv
        clear hh ha hf hf' hv
        go_wp2_with (first | (at_lookup; refine wpList_lookup_own_ok_int _ rfl _ _ 43 rfl 21 21 .i32 law32 Try.underlying43 Try.underlying21 (zero32 _) w.heap.size 40 _ rfl hown2 _ _ rfl hkey ?_; intro c hat hwc) | (at_builtin; refine wpList_append_own _ rfl _ _ 36 rfl w.heap.size 21 i0 (.int .i32 0) 1 4 Try.underlying36 hi hz0 hz1 hz2 rfl (by decide) _ _ _ rfl (hrow2.alloc _) ⟨(wr.iterAt w1.heap.size s (pos + wd)).heap.size, 0, none⟩ 1 1 [.int .i32 r] rfl rfl (cell_one_new _ _ _) (by simp [Value.oneCell']) (by unfold maxLen; omega) (by omega) (by have := hB2.size; simp; omega) ?_; intro v' w2 hown' hgrow _))
        have hg2 : Only (fun k => u4.ownBlock = some k) (wr.iterAt w1.heap.size s (pos + wd)) w2 := ((Only.refl _ _).alloc _).grown hgrow (fun k e => e)
        have hit3 := hg2.obj hit2 (not_own hrow2 hit2 rfl)
        have hip3 := iterPos_at hit3
        have hnm : ¬ u4.ownBlock = some w.heap.size := by
          obtain ⟨es, ck, hmb', _⟩ := hown2
          exact not_own hrow2 hmb' rfl
        exact ⟨⟨pos + wd, b, acc ++ [r], by rw [← HR.out]; simp [HV.out], by simp; omega, by simp; omega, by omega, hit3, hown2.kept' hg2 hnm, by simpa using hown', hB2.trans (hg2.below hB2.size (fun k e => (hrow2.lt k e).1))⟩, by rw [hip3, HIP.out]; omega⟩
    · have hnx := fun ty => run_next_end_at (P := Try.prog) wr w1.heap.size s pos ty hit hp
      rw [runesFrom_end s b pos hp, List.map_nil, List.append_nil] at hacc
      obtain ⟨a, cap, rfl⟩ := slice_of_owns hrow
      have HR := Lib.hid hacc
      clear hacc
      go_wp2
      go_ret
      exact ⟨_, rfl, by rw [← HR.out]; exact hrow, hB⟩
end Go.Proofs.Ytflbbpmlcllamaa
