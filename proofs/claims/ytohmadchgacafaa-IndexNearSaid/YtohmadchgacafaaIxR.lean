/- The references on lists of items: Same, Without, Domain, Find, Near. Conditions: as in the text. -/
import Derived.Test.YtohmadchgacafaaIxO
set_option linter.unusedSimpArgs false
set_option linter.unusedVariables false
set_option linter.unnecessarySimpa false
namespace Go.Proofs.Ytohmadchgacafaa
open Go.RowKit

theorem it_iff (a b : It) : a = b ↔ a.key = b.key ∧ a.ck = b.ck := by cases a; cases b; simp
/-! ### does a name end with a domain -/
def endsP (a b : Bytes) : Bool := decide (a = b) || (decide (b.length < a.length) && (decide (a[a.length - b.length - 1]? = some 46) && decide (a.drop (a.length - b.length) = b)))
theorem split_app (b : Bytes) : ∀ pre : Bytes, splitB 46 (pre ++ 46 :: b) = splitB 46 pre ++ splitB 46 b
  | [] => by
    show splitB 46 (46 :: b) = splitB 46 [] ++ splitB 46 b
    rw [splitB]
    simp [splitB]
  | x :: pre => by
    have ih := split_app b pre
    have hne := splitB_ne 46 pre
    rw [List.cons_append, splitB, splitB, ih]
    split
    · rfl
    · cases hs : splitB 46 pre with
      | nil => exact absurd hs hne
      | cons h t => rfl
theorem ends_split (a b : Bytes) : endsP a b = (splitB 46 b).reverse.isPrefixOf (splitB 46 a).reverse := by
  rw [Bool.eq_iff_iff, List.isPrefixOf_iff_prefix, List.reverse_prefix]
  unfold endsP
  simp only [Bool.or_eq_true, Bool.and_eq_true, decide_eq_true_eq]
  constructor
  · rintro (rfl | ⟨h1, h2, h3⟩)
    · exact List.suffix_refl _
    · have hlt : a.length - b.length - 1 < a.length := by omega
      have e1 : a = a.take (a.length - b.length - 1) ++ 46 :: b := by
        have h4 : a.drop (a.length - b.length - 1) = 46 :: b := by
          rw [List.drop_eq_getElem_cons hlt]
          rw [List.getElem?_eq_getElem hlt] at h2
          rw [Option.some.inj h2, show a.length - b.length - 1 + 1 = a.length - b.length by omega, h3]
        rw [← h4, List.take_append_drop]
      rw [e1, split_app]
      exact List.suffix_append _ _
  · rintro ⟨r, hr⟩
    cases r with
    | nil =>
      left
      exact (split_inj hr).symm
    | cons s r =>
      right
      have hj : joinD ((s :: r) ++ splitB 46 b) = joinD (s :: r) ++ 46 :: b := by
        have key : ∀ (q : List Bytes), q ≠ [] → joinD (q ++ splitB 46 b) = joinD q ++ 46 :: b := by
          intro q
          induction q with
          | nil => intro h; exact absurd rfl h
          | cons x q ih =>
            intro _
            cases q with
            | nil =>
              show joinD (x :: splitB 46 b) = x ++ 46 :: b
              rw [joinD_cons _ (splitB_ne 46 b), split_join]
            | cons y q =>
              show joinD (x :: ((y :: q) ++ splitB 46 b)) = joinD (x :: y :: q) ++ 46 :: b
              rw [joinD_cons x (by simp), ih (by simp), joinD_cons x (by simp), List.append_assoc, List.cons_append]
        exact key _ (by simp)
      rw [hr, split_join] at hj
      have hl := congrArg List.length hj
      rw [List.length_append, List.length_cons] at hl
      refine ⟨by omega, ?_, ?_⟩
      · rw [hj, List.length_append, List.length_cons, show (joinD (s :: r)).length + (b.length + 1) - b.length - 1 = (joinD (s :: r)).length by omega, List.getElem?_append_right (Nat.le_refl _)]
        simp
      · rw [hj, List.length_append, List.length_cons, show (joinD (s :: r)).length + (b.length + 1) - b.length = (joinD (s :: r)).length + 1 by omega, List.drop_append]
        simp
theorem ends_labs (a b : ByteArray) : endsP (bl a) (bl b) = (labs b).isPrefixOf (labs a) := ends_split _ _
set_option maxRecDepth 100000 in
set_option maxHeartbeats 1000000 in
theorem rEnds_any (a b : ByteArray) (w : World) (ha : a.size ≤ 1073741824) (hb : b.size ≤ 1073741824) :
    Calls Try.prog 29 #[.string a, .string b] w fun e w' => e = .returned (.bool (endsP (bl a) (bl b))) ∧ w = w' := by
  have hw0 : IntKind.i64.wrap ((a.size : Int) - (b.size : Int)) = (a.size : Int) - (b.size : Int) := IntWalk.i64_in _ (by omega)
  have he : (a.toList == b.toList) = decide (bl a = bl b) := str_beq a b
  by_cases h1 : bl a = bl b
  · have hr : endsP (bl a) (bl b) = true := by unfold endsP; rw [decide_eq_true h1]; rfl
    have HR := Lib.hid hr
    rw [decide_eq_true h1] at he
    clear h1 hr
    go_enter Try.func29, Try.ntmps29
    go_wp2
    all_goals
      go_ret
      exact ⟨ret_bool HR.out.symm, rfl⟩
  · rw [decide_eq_false h1] at he
    by_cases h2 : b.size < a.size
    · obtain ⟨m, hm⟩ : ∃ m, a.size = b.size + (m + 1) := ⟨a.size - b.size - 1, by omega⟩
      have hma : m < a.size := by omega
      have hd0 : (a.size : Int) - (b.size : Int) = (m : Int) + 1 := by omega
      have hw0' : IntKind.i64.wrap ((m : Int) + 1) = (m : Int) + 1 := IntWalk.i64_in _ (by omega)
      have hw1 : IntKind.i64.wrap ((m : Int) + 1 - 1) = (m : Int) := by rw [show (m : Int) + 1 - 1 = m by omega]; exact IntWalk.i64_in _ (by omega)
      have hgt : decide ((0 : Int) < (m : Int) + 1) = true := decide_eq_true (by omega)
      have HE : Hid (endsP (bl a) (bl b) = (decide ((a[m] : UInt8).toNat = 46) && decide ((bl a).drop (m + 1) = bl b))) := by
        unfold Hid endsP
        rw [decide_eq_false h1, bl_length, bl_length, show a.size - b.size - 1 = m by omega, show a.size - b.size = m + 1 by omega, decide_eq_true h2, List.getElem?_eq_getElem (by simpa using hma)]
        simp only [Bool.false_or, Bool.true_and, Option.some.injEq]
        congr 1
        refine decide_eq_decide.2 ?_
        show a[m] = 46 ↔ _
        rw [← UInt8.toNat_inj]
        rfl
      by_cases h3 : (a[m] : UInt8).toNat = 46
      · have h3' : (((a[m] : UInt8).toNat : Int) == 46) = true := by simp [h3]
        have hx := str_beq (a.extract (m + 1) a.size) b
        have hx2 : bl (a.extract (m + 1) a.size) = (bl a).drop (m + 1) := by rw [bl_extract, List.take_of_length_le (by rw [bl_length]; exact Nat.le_refl _)]
        rw [hx2] at hx
        have hle : (m : Int) + 1 ≤ (a.size : Int) := by omega
        have h0 : (0 : Int) ≤ (m : Int) + 1 := by omega
        have HR := Lib.hid (HE.out.trans (by rw [decide_eq_true h3, Bool.true_and]))
        generalize decide ((bl a).drop (m + 1) = bl b) = q at *
        have HM := Lib.hid hm
        clear h1 h2 h3 hx2 hm
        go_enter Try.func29, Try.ntmps29
        go_wp2
        all_goals
          go_ret
          exact ⟨ret_bool (by rw [HR.out]), rfl⟩
      · have h3' : (((a[m] : UInt8).toNat : Int) == 46) = false := by simp; omega
        have HR := Lib.hid (HE.out.trans (by rw [decide_eq_false h3, Bool.false_and]))
        have HM := Lib.hid hm
        clear h1 h2 h3 hm
        go_enter Try.func29, Try.ntmps29
        go_wp2
        all_goals
          go_ret
          exact ⟨ret_bool (by rw [HR.out]), rfl⟩
    · have hgt : decide ((0 : Int) < (a.size : Int) - (b.size : Int)) = false := decide_eq_false (by omega)
      have hgt2 : decide (b.size < a.size) = false := decide_eq_false h2
      have HR : Hid (endsP (bl a) (bl b) = false) := by
        unfold Hid endsP
        rw [decide_eq_false h1, bl_length, bl_length, decide_eq_false h2]
        rfl
      clear h1
      go_enter Try.func29, Try.ntmps29
      go_wp2
      all_goals
        go_ret
        exact ⟨ret_bool (by rw [HR.out]), rfl⟩

/-! ### Same -/
set_option maxRecDepth 100000 in
set_option maxHeartbeats 2000000 in
theorem rSameI_any (a b : Option Addr) (ca cb : Nat) (l m : List It) (w : World) (hl : l.length ≤ 1073741824) (hm : m.length ≤ 1073741824) (ha : ItsIn w a l) (hb : ItsIn w b m) :
    Calls Try.prog 10 #[.slice a l.length ca, .slice b m.length cb] w fun e w' => e = .returned (.bool (decide (l = m))) ∧ Below w.heap.size w w' := by
  by_cases hlen : l.length = m.length
  · have hb1 : ((l.length : Nat) != (m.length : Nat)) = false := by rw [bne_eq_false_iff_eq]; exact hlen
    have hb2 : ((l.length : Int) != (m.length : Int)) = false := by rw [bne_eq_false_iff_eq]; omega
    have hg := noGuardItem
    have HL := Lib.hid hlen
    clear hlen
    go_enter Try.func10, Try.ntmps10
    go_wp2
    go_loopw [5] (fun i wr => ∃ k : Nat, k ≤ l.length ∧ i = .int .i64 k ∧ l.take k = m.take k ∧ Below w.heap.size w wr) (fun i _ => l.length - (intOf i).toNat)
    case atStart => exact ⟨0, Nat.zero_le _, rfl, rfl, by go_grown⟩
    case round =>
      obtain ⟨k, hk, rfl, hpre, hbw⟩ := hrel
      have HP := Lib.hid hpre
      clear hpre
      by_cases hlt : k < l.length
      · have hlm : k < m.length := by have := HL.out; omega
        obtain ⟨A, off, rfl, hra⟩ := ItsIn.at (ha.kept hbw) hlt
        obtain ⟨A2, off2, rfl, hrb⟩ := ItsIn.at (hb.kept hbw) hlm
        have hlti : decide (k < l.length) = true := decide_eq_true hlt
        by_cases he : l[k] = m[k]
        · have HS := Lib.hid (take_next hlt hlm HP.out he)
          have hEq := fun (W : World) => eqItem W 9997 l[k].key m[k].key l[k].ck m[k].ck
          rw [decide_eq_true ((it_iff _ _).1 he).1, decide_eq_true ((it_iff _ _).1 he).2] at hEq
          have HLT := Lib.hid hlt
          generalize l[k] = x at *
          generalize m[k] = y at *
          clear he
          go_upto_region 6 with fail
          refine wp_region_after (by kernel_rfl) (by kernel_rfl) (fun WA hWA => ?_)
          have hbA : Below wr.heap.size wr WA := by rw [hWA.out]; go_grown
          have p0 := rangeAt_kept hra hbA
          have p1 := rangeAt_kept hrb hbA
          clear hWA hra hrb
          go_big_quiet_step (fail)
          go_big_quiet_step (fail)
          go_big_quiet_step (fail)
          ((with_reducible refine wpQuiet_load_to 38 _ A (off + k * 11) (itCells x) (itVal x) rfl _ Try.underlying38 rfl (by kernel_rfl) p0 ?_ rfl ?_); exact rfl; go_simp)
          go_big_quiet_step (fail)
          go_big_quiet_step (fail)
          go_big_quiet_step (fail)
          ((with_reducible refine wpQuiet_load_to 38 _ A2 (off2 + k * 11) (itCells y) (itVal y) rfl _ Try.underlying38 rfl (by kernel_rfl) p1 ?_ rfl ?_); exact rfl; go_simp)
          go_big_quiet_step (fail)
          refine wpQuiet_nil ?_
          first
            | rintro _ ⟨i, rfl⟩
            | intro i
          have hiA := i.h
          generalize i.w = wq at hiA ⊢
          have hbq : Below wr.heap.size wr wq := below2 hbA hiA
          clear hbA hiA p0 p1
          go_wp2
          go_roundw
          case rel => exact ⟨k + 1, HLT.out, by go_num, HS.out, hbw.trans (hbq.mono hbw.size)⟩
          case measure => have := HLT.out; simp [intOf]; omega
        · have HE : Hid (decide (l = m) = false) := decide_eq_false (take_ne hlt hlm he)
          have hEq := fun (W : World) => eqItem W 9997 l[k].key m[k].key l[k].ck m[k].ck
          have hff : (decide (l[k].key = m[k].key) && decide (l[k].ck = m[k].ck)) = false := by
            rw [Bool.eq_false_iff]
            intro h
            simp only [Bool.and_eq_true, decide_eq_true_eq] at h
            exact he ((it_iff _ _).2 h)
          rw [hff] at hEq
          generalize l[k] = x at *
          generalize m[k] = y at *
          clear he hff
          go_upto_region 6 with fail
          refine wp_region_after (by kernel_rfl) (by kernel_rfl) (fun WA hWA => ?_)
          have hbA : Below wr.heap.size wr WA := by rw [hWA.out]; go_grown
          have p0 := rangeAt_kept hra hbA
          have p1 := rangeAt_kept hrb hbA
          clear hWA hra hrb
          go_big_quiet_step (fail)
          go_big_quiet_step (fail)
          go_big_quiet_step (fail)
          ((with_reducible refine wpQuiet_load_to 38 _ A (off + k * 11) (itCells x) (itVal x) rfl _ Try.underlying38 rfl (by kernel_rfl) p0 ?_ rfl ?_); exact rfl; go_simp)
          go_big_quiet_step (fail)
          go_big_quiet_step (fail)
          go_big_quiet_step (fail)
          ((with_reducible refine wpQuiet_load_to 38 _ A2 (off2 + k * 11) (itCells y) (itVal y) rfl _ Try.underlying38 rfl (by kernel_rfl) p1 ?_ rfl ?_); exact rfl; go_simp)
          go_big_quiet_step (fail)
          refine wpQuiet_nil ?_
          first
            | rintro _ ⟨i, rfl⟩
            | intro i
          have hiA := i.h
          generalize i.w = wq at hiA ⊢
          have hbq : Below wr.heap.size wr wq := below2 hbA hiA
          clear hbA hiA p0 p1
          go_wp2
          all_goals
            go_ret
            exact ⟨ret_bool HE.out.symm, hbw.trans (hbq.mono hbw.size)⟩
      · have hlm : ¬ k < m.length := by have := HL.out; omega
        have hlti : decide (k < l.length) = false := decide_eq_false hlt
        have HE : Hid (decide (l = m) = true) := decide_eq_true (take_all hlt hlm HP.out)
        go_wp2
        all_goals
          go_ret
          exact ⟨ret_bool HE.out.symm, hbw⟩
  · have HE : Hid (decide (l = m) = false) := decide_eq_false (len_ne hlen)
    have hb1 : ((l.length : Nat) != (m.length : Nat)) = true := by rw [bne_iff_ne]; exact hlen
    have hb2 : ((l.length : Int) != (m.length : Int)) = true := by rw [bne_iff_ne]; omega
    clear hlen
    go_enter Try.func10, Try.ntmps10
    go_wp2
    all_goals
      go_ret
      exact ⟨ret_bool HE.out.symm, by go_grown⟩

/-! ### filters -/
set_option maxRecDepth 100000 in
set_option maxHeartbeats 2000000 in
theorem rDomain_any (d : ByteArray) (a : Option Addr) (cap : Nat) (l : List It) (w : World) (hl : l.length ≤ 1073741823) (hin : ItsIn w a l) :
    Calls Try.prog 12 #[.slice a l.length cap, .string d] w (RetIts (domI l d) w) := by
  obtain ⟨i0, hi, hz0, hz1, hz2⟩ := info_parts Try.infoItem
  have HW : Hid (∀ j (h : j < l.length), (l.take (j + 1)).filter (fun x => decide (x.key.domain = d)) = (l.take j).filter (fun x => decide (x.key.domain = d)) ++ if (fun x : It => decide (x.key.domain = d)) l[j] = true then [l[j]] else []) := fun j h => by
    rw [List.take_succ_eq_append_getElem h, List.filter_append, List.filter_cons, List.filter_nil]
  have HLL : Hid (∀ j, j ≤ l.length → ((l.take j).filter (fun x => decide (x.key.domain = d))).length ≤ j) := fun j hj => by
    have := List.length_filter_le (fun x : It => decide (x.key.domain = d)) (l.take j)
    rw [List.length_take] at this
    omega
  go_enter Try.func12, Try.ntmps12
  skip
  go_wp2
  go_loopw [5, 6] (fun v i wr => ∃ j : Nat, i = .int .i64 j ∧ j ≤ l.length ∧ wr.ownsRow w.heap.size 38 11 v ((l.take j).filter (fun x => decide (x.key.domain = d))).length (itsVals ((l.take j).filter (fun x => decide (x.key.domain = d)))) ∧ Below w.heap.size w wr) (fun _ i _ => l.length - (intOf i).toNat)
  case atStart => exact ⟨0, rfl, Nat.zero_le _, World.ownsRow_made _ _ _ (by first | exact Nat.le_refl _ | simp) (by decide) rfl, (Below.refl _ _).alloc (Nat.le_refl _) _⟩
  case round =>
    obtain ⟨j, rfl, hj, hown, hb⟩ := hrel
    by_cases hlt : j < l.length
    · obtain ⟨A, off, rfl, hr⟩ := ItsIn.at (hin.kept hb) hlt
      have hW := HW.out j hlt
      have hln := HLL.out j (Nat.le_of_lt hlt)
      obtain ⟨L, hL⟩ : ∃ L, L = (l.take j).filter (fun x => decide (x.key.domain = d)) := ⟨_, rfl⟩
      rw [← hL] at hW hln hown
      have HLT := Lib.hid hlt
      have hlti : decide (j < l.length) = true := decide_eq_true hlt
      skip
      generalize l[j] = y at *
      clear hlt hL
      by_cases hy : (fun x : It => decide (x.key.domain = d)) y = true
      · rw [if_pos hy] at hW
        have HWW := Lib.hid hW
        simp only at hy
        have hq : (y.key.domain.toList == d.toList) = true := by rw [str_beq]; exact decide_eq_true (by rw [of_decide_eq_true hy])
        obtain ⟨y0, y1, y2⟩ := range_key hr
        clear hy
        go_upto_region 6 with fail
        obtain ⟨wq, hwq⟩ : ∃ wq, wq = wr := ⟨_, rfl⟩
        rw [← hwq]
        have hbq : Below wr.heap.size wr wq := by rw [hwq]; exact Below.refl _ _
        clear y0 y1 y2 hwq
        have hr2 := rangeAt_kept hr hbq
        have hown2 := ownsRow_below hown hbq
        have HB2 : Hid (Below w.heap.size w wq) := Lib.hid (hb.trans (hbq.mono hb.size))
        clear hr hown hbq hW
        have hzz := HB2.out.size
        go_wp2_with (first
          | ((with_reducible refine wpList_load_to 38 _ A (off + j * 11) (itCells y) (itVal y) rfl _ Try.underlying38 rfl (by kernel_rfl) hr2 ?_ rfl ?_); exact rfl)
          | (refine wpList_build1I rfl 22 38 _ rfl (itCells y).toArray 11 rfl rfl (by decide) (by decide) Try.underlying22 (by kernel_rfl) (by kernel_rfl) ?_)
          | (at_builtin; go_loud (refine wpList_append_own_at _ rfl _ _ 22 rfl w.heap.size 38 i0 (itVal it0) 11 96 Try.underlying22 hi hz0 hz1 hz2 rfl (by decide) _ _ _ rfl (hown2.alloc _) ⟨wq.heap.size, 0, none⟩ 1 1 (itCells y) rfl rfl (its_news wq y _) (itCells_one _) (by unfold maxLen; omega) (by omega) (by simp; omega) ?_)))
        intro v' wf hownf hgrow _ hbk
        have hal : Below wq.heap.size wq (wq.alloc (Obj.cells (itCells y).toArray 38)) := (Below.refl _ _).alloc (Nat.le_refl _) _
        have hbF : Below w.heap.size w wf := (HB2.out.trans (hal.mono HB2.out.size)).grown hgrow (by have := hal.size; have := HB2.out.size; omega) (fun q hq => (hown2.lt q hq).1)
        have HZ := Lib.hid (And.intro hownf hbF)
        clear hownf hgrow hal hown2 hr2 hbF hbk
        go_wp2
        go_roundw
        case rel => exact ⟨j + 1, by go_num, HLT.out, by rw [HWW.out, List.length_append, itsVals_append, itsVals_one]; exact HZ.out.1, HZ.out.2⟩
        case measure => have := HLT.out; simp [intOf]; omega
      · rw [if_neg hy, List.append_nil] at hW
        have HWW := Lib.hid hW
        simp only at hy
        have hq : (y.key.domain.toList == d.toList) = false := by rw [str_beq]; exact decide_eq_false (fun e => hy (decide_eq_true (bl_inj e)))
        obtain ⟨y0, y1, y2⟩ := range_key hr
        clear hy
        go_upto_region 4 with fail
        obtain ⟨wq, hwq⟩ : ∃ wq, wq = wr := ⟨_, rfl⟩
        rw [← hwq]
        have hbq : Below wr.heap.size wr wq := by rw [hwq]; exact Below.refl _ _
        clear y0 y1 y2 hwq
        have HO2 := Lib.hid (ownsRow_below hown hbq)
        have HB2 := Lib.hid (hb.trans (hbq.mono hb.size))
        clear hr hown hbq hW
        go_wp2
        go_roundw
        case rel => exact ⟨j + 1, by go_num, HLT.out, by rw [HWW.out]; exact HO2.out, HB2.out⟩
        case measure => have := HLT.out; simp [intOf]; omega
    · obtain rfl : j = l.length := by omega
      rw [List.take_length] at hown
      have hlti : decide (l.length < l.length) = false := decide_eq_false hlt
      have HZ := Lib.hid (And.intro hown hb)
      clear hown hb
      go_wp2
      all_goals
        go_ret
        exact ⟨_, rfl, HZ.out.1, HZ.out.2⟩
set_option maxRecDepth 100000 in
set_option maxHeartbeats 2000000 in
theorem rNear_any (d : ByteArray) (a : Option Addr) (cap : Nat) (l : List It) (w : World) (hl : l.length ≤ 1073741823) (hin : ItsIn w a l) (hd : d.size ≤ 1073741823) (hdl : ∀ y ∈ l, y.key.domain.size ≤ 1073741823) :
    Calls Try.prog 14 #[.slice a l.length cap, .string d] w (RetIts (nearI l d) w) := by
  obtain ⟨i0, hi, hz0, hz1, hz2⟩ := info_parts Try.infoItem
  have HW : Hid (∀ j (h : j < l.length), (l.take (j + 1)).filter (fun x => (labs x.key.domain).isPrefixOf (labs d)) = (l.take j).filter (fun x => (labs x.key.domain).isPrefixOf (labs d)) ++ if (fun x : It => (labs x.key.domain).isPrefixOf (labs d)) l[j] = true then [l[j]] else []) := fun j h => by
    rw [List.take_succ_eq_append_getElem h, List.filter_append, List.filter_cons, List.filter_nil]
  have HLL : Hid (∀ j, j ≤ l.length → ((l.take j).filter (fun x => (labs x.key.domain).isPrefixOf (labs d))).length ≤ j) := fun j hj => by
    have := List.length_filter_le (fun x : It => (labs x.key.domain).isPrefixOf (labs d)) (l.take j)
    rw [List.length_take] at this
    omega
  go_enter Try.func14, Try.ntmps14
  have HEN := Lib.hid (fun (b : ByteArray) (X : World) (hb : b.size ≤ 1073741824) => (ends_labs d b) ▸ rEnds_any d b X (by omega) hb)
  go_wp2
  go_loopw [5, 6] (fun v i wr => ∃ j : Nat, i = .int .i64 j ∧ j ≤ l.length ∧ wr.ownsRow w.heap.size 38 11 v ((l.take j).filter (fun x => (labs x.key.domain).isPrefixOf (labs d))).length (itsVals ((l.take j).filter (fun x => (labs x.key.domain).isPrefixOf (labs d)))) ∧ Below w.heap.size w wr) (fun _ i _ => l.length - (intOf i).toNat)
  case atStart => exact ⟨0, rfl, Nat.zero_le _, World.ownsRow_made _ _ _ (by first | exact Nat.le_refl _ | simp) (by decide) rfl, (Below.refl _ _).alloc (Nat.le_refl _) _⟩
  case round =>
    obtain ⟨j, rfl, hj, hown, hb⟩ := hrel
    by_cases hlt : j < l.length
    · obtain ⟨A, off, rfl, hr⟩ := ItsIn.at (hin.kept hb) hlt
      have hW := HW.out j hlt
      have hln := HLL.out j (Nat.le_of_lt hlt)
      obtain ⟨L, hL⟩ : ∃ L, L = (l.take j).filter (fun x => (labs x.key.domain).isPrefixOf (labs d)) := ⟨_, rfl⟩
      rw [← hL] at hW hln hown
      have HLT := Lib.hid hlt
      have hlti : decide (j < l.length) = true := decide_eq_true hlt
      have hys : l[j].key.domain.size ≤ 1073741824 := by have := hdl _ (List.getElem_mem hlt); omega
      generalize l[j] = y at *
      clear hlt hL
      by_cases hy : (fun x : It => (labs x.key.domain).isPrefixOf (labs d)) y = true
      · rw [if_pos hy] at hW
        have HWW := Lib.hid hW
        simp only at hy
        have hE := HEN.out y.key.domain wr hys
        rw [hy] at hE
        have HE := Lib.hid hE
        obtain ⟨y0, y1, y2⟩ := range_key hr
        clear hE hy
        go_upto_region 6 with (go_at_call 29; refine HE.out.mono ?_; rintro e w2 ⟨rfl, rfl⟩)
        obtain ⟨wq, hwq⟩ : ∃ wq, wq = wr := ⟨_, rfl⟩
        rw [← hwq]
        have hbq : Below wr.heap.size wr wq := by rw [hwq]; exact Below.refl _ _
        clear y0 y1 y2 hwq
        have hr2 := rangeAt_kept hr hbq
        have hown2 := ownsRow_below hown hbq
        have HB2 : Hid (Below w.heap.size w wq) := Lib.hid (hb.trans (hbq.mono hb.size))
        clear hr hown hbq hW
        have hzz := HB2.out.size
        go_wp2_with (first
          | ((with_reducible refine wpList_load_to 38 _ A (off + j * 11) (itCells y) (itVal y) rfl _ Try.underlying38 rfl (by kernel_rfl) hr2 ?_ rfl ?_); exact rfl)
          | (refine wpList_build1I rfl 22 38 _ rfl (itCells y).toArray 11 rfl rfl (by decide) (by decide) Try.underlying22 (by kernel_rfl) (by kernel_rfl) ?_)
          | (at_builtin; go_loud (refine wpList_append_own_at _ rfl _ _ 22 rfl w.heap.size 38 i0 (itVal it0) 11 96 Try.underlying22 hi hz0 hz1 hz2 rfl (by decide) _ _ _ rfl (hown2.alloc _) ⟨wq.heap.size, 0, none⟩ 1 1 (itCells y) rfl rfl (its_news wq y _) (itCells_one _) (by unfold maxLen; omega) (by omega) (by simp; omega) ?_)))
        intro v' wf hownf hgrow _ hbk
        have hal : Below wq.heap.size wq (wq.alloc (Obj.cells (itCells y).toArray 38)) := (Below.refl _ _).alloc (Nat.le_refl _) _
        have hbF : Below w.heap.size w wf := (HB2.out.trans (hal.mono HB2.out.size)).grown hgrow (by have := hal.size; have := HB2.out.size; omega) (fun q hq => (hown2.lt q hq).1)
        have HZ := Lib.hid (And.intro hownf hbF)
        clear hownf hgrow hal hown2 hr2 hbF hbk
        go_wp2
        go_roundw
        case rel => exact ⟨j + 1, by go_num, HLT.out, by rw [HWW.out, List.length_append, itsVals_append, itsVals_one]; exact HZ.out.1, HZ.out.2⟩
        case measure => have := HLT.out; simp [intOf]; omega
      · rw [if_neg hy, List.append_nil] at hW
        have HWW := Lib.hid hW
        simp only at hy
        have hE := HEN.out y.key.domain wr hys
        rw [Bool.eq_false_iff.2 hy] at hE
        have HE := Lib.hid hE
        obtain ⟨y0, y1, y2⟩ := range_key hr
        clear hE hy
        go_upto_region 4 with (go_at_call 29; refine HE.out.mono ?_; rintro e w2 ⟨rfl, rfl⟩)
        obtain ⟨wq, hwq⟩ : ∃ wq, wq = wr := ⟨_, rfl⟩
        rw [← hwq]
        have hbq : Below wr.heap.size wr wq := by rw [hwq]; exact Below.refl _ _
        clear y0 y1 y2 hwq
        have HO2 := Lib.hid (ownsRow_below hown hbq)
        have HB2 := Lib.hid (hb.trans (hbq.mono hb.size))
        clear hr hown hbq hW
        go_wp2
        go_roundw
        case rel => exact ⟨j + 1, by go_num, HLT.out, by rw [HWW.out]; exact HO2.out, HB2.out⟩
        case measure => have := HLT.out; simp [intOf]; omega
    · obtain rfl : j = l.length := by omega
      rw [List.take_length] at hown
      have hlti : decide (l.length < l.length) = false := decide_eq_false hlt
      have HZ := Lib.hid (And.intro hown hb)
      clear hown hb
      go_wp2
      all_goals
        go_ret
        exact ⟨_, rfl, HZ.out.1, HZ.out.2⟩
set_option maxRecDepth 100000 in
set_option maxHeartbeats 2000000 in
theorem rWithout_any (k : Key) (a : Option Addr) (cap : Nat) (l : List It) (w : World) (hl : l.length ≤ 1073741823) (hin : ItsIn w a l) :
    Calls Try.prog 18 #[.slice a l.length cap, keyV k] w (RetIts (woI l k) w) := by
  obtain ⟨i0, hi, hz0, hz1, hz2⟩ := info_parts Try.infoItem
  have HW : Hid (∀ j (h : j < l.length), (l.take (j + 1)).filter (fun x => decide (x.key ≠ k)) = (l.take j).filter (fun x => decide (x.key ≠ k)) ++ if (fun x : It => decide (x.key ≠ k)) l[j] = true then [l[j]] else []) := fun j h => by
    rw [List.take_succ_eq_append_getElem h, List.filter_append, List.filter_cons, List.filter_nil]
  have HLL : Hid (∀ j, j ≤ l.length → ((l.take j).filter (fun x => decide (x.key ≠ k))).length ≤ j) := fun j hj => by
    have := List.length_filter_le (fun x : It => decide (x.key ≠ k)) (l.take j)
    rw [List.length_take] at this
    omega
  go_enter Try.func18, Try.ntmps18
  go_upto_region 1 with fail
  refine wp_name (fun W hW => ?_)
  have hbW : Below w.heap.size w W := by rw [hW.out]; go_grown
  have hK : KeyAt W w.heap.size k := by rw [hW.out]; exact ⟨by go_simp, by go_simp, by go_simp⟩
  have hinW := hin.kept hbW
  have hm := noGuardKey
  clear hW
  go_wp2
  go_loopw [5, 6] (fun v i wr => ∃ j : Nat, i = .int .i64 j ∧ j ≤ l.length ∧ wr.ownsRow W.heap.size 38 11 v ((l.take j).filter (fun x => decide (x.key ≠ k))).length (itsVals ((l.take j).filter (fun x => decide (x.key ≠ k)))) ∧ Below W.heap.size W wr) (fun _ i _ => l.length - (intOf i).toNat)
  case atStart => exact ⟨0, rfl, Nat.zero_le _, World.ownsRow_made _ _ _ (by first | exact Nat.le_refl _ | simp) (by decide) rfl, (Below.refl _ _).alloc (Nat.le_refl _) _⟩
  case round =>
    obtain ⟨j, rfl, hj, hown, hb⟩ := hrel
    by_cases hlt : j < l.length
    · obtain ⟨A, off, rfl, hr⟩ := ItsIn.at (hinW.kept hb) hlt
      have hW := HW.out j hlt
      have hln := HLL.out j (Nat.le_of_lt hlt)
      obtain ⟨L, hL⟩ : ∃ L, L = (l.take j).filter (fun x => decide (x.key ≠ k)) := ⟨_, rfl⟩
      rw [← hL] at hW hln hown
      have HLT := Lib.hid hlt
      have hlti : decide (j < l.length) = true := decide_eq_true hlt
      skip
      generalize l[j] = y at *
      clear hlt hL
      by_cases hy : (fun x : It => decide (x.key ≠ k)) y = true
      · rw [if_pos hy] at hW
        have HWW := Lib.hid hW
        simp only at hy
        have hEq := fun (W : World) => eqKey W 9998 y.key k
        rw [decide_eq_false (of_decide_eq_true hy)] at hEq
        clear hy
        have hlt := HLT.out
        go_upto_region 5 with fail
        refine wp_region_after (by kernel_rfl) (by kernel_rfl) (fun WA hWA => ?_)
        have hbA : Below wr.heap.size wr WA := by rw [hWA.out]; go_grown
        have p0 := rangeAt_kept (range_keyCs hr) hbA
        have p1 := rangeAt_kept ((hK.kept hb).range) hbA
        clear hWA
        go_big_quiet_step (fail)
        go_big_quiet_step (fail)
        go_big_quiet_step (fail)
        go_big_quiet_step (fail)
        ((with_reducible refine wpQuiet_load_to 34 _ A (off + j * 11) (keyCs y.key) (keyV y.key) rfl _ Try.underlying34 rfl (by kernel_rfl) p0 ?_ rfl ?_); exact rfl; go_simp)
        ((with_reducible refine wpQuiet_load_to 34 _ w.heap.size 0 (keyCs k) (keyV k) rfl _ Try.underlying34 rfl (by kernel_rfl) p1 ?_ rfl ?_); exact rfl; go_simp)
        go_big_quiet_step (fail)
        refine wpQuiet_nil ?_
        first
          | rintro _ ⟨i, rfl⟩
          | intro i
        have hiA := i.h
        generalize i.w = wq at hiA ⊢
        have hbq : Below wr.heap.size wr wq := below2 hbA hiA
        clear hbA hiA p0 p1 hEq hlt
        have hr2 := rangeAt_kept hr hbq
        have hown2 := ownsRow_below hown hbq
        have HB2 : Hid (Below W.heap.size W wq) := Lib.hid (hb.trans (hbq.mono hb.size))
        clear hr hown hbq hW
        have hzz := HB2.out.size
        go_wp2_with (first
          | ((with_reducible refine wpList_load_to 38 _ A (off + j * 11) (itCells y) (itVal y) rfl _ Try.underlying38 rfl (by kernel_rfl) hr2 ?_ rfl ?_); exact rfl)
          | (refine wpList_build1I rfl 22 38 _ rfl (itCells y).toArray 11 rfl rfl (by decide) (by decide) Try.underlying22 (by kernel_rfl) (by kernel_rfl) ?_)
          | (at_builtin; go_loud (refine wpList_append_own_at _ rfl _ _ 22 rfl W.heap.size 38 i0 (itVal it0) 11 96 Try.underlying22 hi hz0 hz1 hz2 rfl (by decide) _ _ _ rfl (hown2.alloc _) ⟨wq.heap.size, 0, none⟩ 1 1 (itCells y) rfl rfl (its_news wq y _) (itCells_one _) (by unfold maxLen; omega) (by omega) (by simp; omega) ?_)))
        intro v' wf hownf hgrow _ hbk
        have hal : Below wq.heap.size wq (wq.alloc (Obj.cells (itCells y).toArray 38)) := (Below.refl _ _).alloc (Nat.le_refl _) _
        have hbF : Below W.heap.size W wf := (HB2.out.trans (hal.mono HB2.out.size)).grown hgrow (by have := hal.size; have := HB2.out.size; omega) (fun q hq => (hown2.lt q hq).1)
        have HZ := Lib.hid (And.intro hownf hbF)
        clear hownf hgrow hal hown2 hr2 hbF hbk
        go_wp2
        go_roundw
        case rel => exact ⟨j + 1, by go_num, HLT.out, by rw [HWW.out, List.length_append, itsVals_append, itsVals_one]; exact HZ.out.1, HZ.out.2⟩
        case measure => have := HLT.out; simp [intOf]; omega
      · rw [if_neg hy, List.append_nil] at hW
        have HWW := Lib.hid hW
        simp only at hy
        have hEq := fun (W : World) => eqKey W 9998 y.key k
        rw [decide_eq_true (Classical.byContradiction fun e => hy (decide_eq_true e))] at hEq
        clear hy
        have hlt := HLT.out
        go_upto_region 5 with fail
        refine wp_region_after (by kernel_rfl) (by kernel_rfl) (fun WA hWA => ?_)
        have hbA : Below wr.heap.size wr WA := by rw [hWA.out]; go_grown
        have p0 := rangeAt_kept (range_keyCs hr) hbA
        have p1 := rangeAt_kept ((hK.kept hb).range) hbA
        clear hWA
        go_big_quiet_step (fail)
        go_big_quiet_step (fail)
        go_big_quiet_step (fail)
        go_big_quiet_step (fail)
        ((with_reducible refine wpQuiet_load_to 34 _ A (off + j * 11) (keyCs y.key) (keyV y.key) rfl _ Try.underlying34 rfl (by kernel_rfl) p0 ?_ rfl ?_); exact rfl; go_simp)
        ((with_reducible refine wpQuiet_load_to 34 _ w.heap.size 0 (keyCs k) (keyV k) rfl _ Try.underlying34 rfl (by kernel_rfl) p1 ?_ rfl ?_); exact rfl; go_simp)
        go_big_quiet_step (fail)
        refine wpQuiet_nil ?_
        first
          | rintro _ ⟨i, rfl⟩
          | intro i
        have hiA := i.h
        generalize i.w = wq at hiA ⊢
        have hbq : Below wr.heap.size wr wq := below2 hbA hiA
        clear hbA hiA p0 p1 hEq hlt
        have HO2 := Lib.hid (ownsRow_below hown hbq)
        have HB2 := Lib.hid (hb.trans (hbq.mono hb.size))
        clear hr hown hbq hW
        go_wp2
        go_roundw
        case rel => exact ⟨j + 1, by go_num, HLT.out, by rw [HWW.out]; exact HO2.out, HB2.out⟩
        case measure => have := HLT.out; simp [intOf]; omega
    · obtain rfl : j = l.length := by omega
      rw [List.take_length] at hown
      have hlti : decide (l.length < l.length) = false := decide_eq_false hlt
      have HZ := Lib.hid (And.intro hown hb)
      clear hown hb
      go_wp2
      all_goals
        go_ret
        exact ⟨_, rfl, own_low HZ.out.1 hbW.size, hbW.trans (HZ.out.2.mono hbW.size)⟩
end Go.Proofs.Ytohmadchgacafaa
