/- The reference's disk: Find, get. Conditions: as in the text. -/
import Derived.Test.YtbkelbdeodbhcaaDRef
import Derived.Test.YtbkelbdeodbhcaaDiskM
set_option linter.unusedSimpArgs false
set_option linter.unusedVariables false
set_option linter.unnecessarySimpa false
namespace Go.Proofs.Ytbkelbdeodbhcaa
open Go.RowKit

theorem getF_cons (f : DF) (l : List DF) (s : ByteArray) : getF (f :: l) s = if f.name = s then some f else getF l s := by
  unfold getF
  rw [List.find?_cons]
  split <;> rename_i h
  · rw [if_pos (by simpa using h)]
  · rw [if_neg (by simpa using h)]
/-- where a file is -/
def idxF : List DF → ByteArray → Option Nat
  | [], _ => none
  | f :: l, s => if f.name = s then some 0 else (idxF l s).map (· + 1)
def findFI (l : List DF) (s : ByteArray) : Int := match idxF l s with | none => -1 | some k => k
def findFF (k : Nat) (l : List DF) (s : ByteArray) : Int := match idxF l s with | none => -1 | some j => k + j
theorem findFF_eq {k : Nat} {f : DF} {l : List DF} {s : ByteArray} (h : f.name = s) : findFF k (f :: l) s = k := by simp [findFF, idxF, h]
theorem findFF_ne {k : Nat} {f : DF} {l : List DF} {s : ByteArray} (h : ¬ f.name = s) : findFF k (f :: l) s = findFF (k + 1) l s := by
  simp only [findFF, idxF, if_neg h]
  cases idxF l s <;> simp
  omega
theorem idxF_get : ∀ {l : List DF} {s : ByteArray} {k : Nat}, idxF l s = some k → ∃ h : k < l.length, getF l s = some l[k]
  | [], _, _, h => by simp [idxF] at h
  | f :: l, s, k, h => by
    unfold idxF at h
    rw [getF_cons]
    split at h
    · rename_i e
      simp only [Option.some.injEq] at h
      subst h
      exact ⟨by simp, by rw [if_pos e]; rfl⟩
    · rename_i e
      simp only [Option.map_eq_some_iff] at h
      obtain ⟨j, hj, rfl⟩ := h
      obtain ⟨h1, h2⟩ := idxF_get hj
      exact ⟨by simp; omega, by rw [if_neg e, h2]; rfl⟩
theorem idxF_none : ∀ {l : List DF} {s : ByteArray}, idxF l s = none → getF l s = none
  | [], _, _ => rfl
  | f :: l, s, h => by
    unfold idxF at h
    rw [getF_cons]
    split at h
    · cases h
    · rename_i e
      rw [if_neg e]
      exact idxF_none (by simpa using h)
theorem rfs_drop (l : List RF) (k : Nat) (h : k < l.length) : (rfsOf l).drop k = l[k].f :: (rfsOf l).drop (k + 1) := by
  rw [List.drop_eq_getElem_cons (by simpa using h)]
  simp
set_option maxHeartbeats 400000 in
theorem rFind_any30 (a : Option Addr) (cap : Nat) (l : List RF) (s : ByteArray) (w : World) (hl : l.length ≤ 1073741824) (h : RFsIn w a l) :
    Calls Try.prog 11 #[.slice a l.length cap, .string s] w fun e w' => e = .returned (.int .i64 (findFI (rfsOf l) s)) ∧ w = w' := by
  go_enter Try.func11, Try.ntmps11
  go_wp2
  go_loop [5] (fun i => ∃ k : Nat, k ≤ l.length ∧ i = .int .i64 k ∧ findFI (rfsOf l) s = findFF k ((rfsOf l).drop k) s) (fun i => l.length - (intOf i).toNat)
  case atStart => exact ⟨0, Nat.zero_le _, rfl, by rw [List.drop_zero]; simp [findFI, findFF]⟩
  case round =>
    obtain ⟨k, hk, rfl, hpre⟩ := hrel
    have HP := Lib.hid hpre
    clear hpre
    by_cases hlt : k < l.length
    · obtain ⟨A, off, rfl, hrows, hok⟩ := h.at hlt
      have c0 := hrows k hlt 0 _ rfl
      rw [Nat.add_zero] at c0
      have HD := Lib.hid (rfs_drop l k hlt)
      clear hrows hok
      by_cases hc : l[k].f.name = s
      · have HE : Hid (findFI (rfsOf l) s = k) := by rw [Hid, HP.out, HD.out]; exact findFF_eq hc
        have hq : (l[k].f.name.toList == s.toList) = true := by rw [hc]; simp
        clear HP HD
        generalize l[k] = x at *
        go_wp2
        go_ret
        exact ⟨ret_int HE.out.symm, rfl⟩
      · have HE : Hid (findFI (rfsOf l) s = findFF (k + 1) ((rfsOf l).drop (k + 1)) s) := by rw [Hid, HP.out, HD.out]; exact findFF_ne hc
        have hq : (l[k].f.name.toList == s.toList) = false := by rw [str_beq]; exact decide_eq_false fun e => hc (bl_inj e)
        clear HP HD hc
        generalize l[k] = x at *
        go_wp2
        go_round
        case rel => exact ⟨k + 1, by omega, by go_num, HE.out⟩
        case measure => simp [intOf]; omega
    · have HE : Hid (findFI (rfsOf l) s = -1) := by rw [Hid, HP.out, List.drop_of_length_le (by simpa using Nat.le_of_not_lt hlt)]; rfl
      go_wp2
      go_ret
      exact ⟨ret_int HE.out.symm, rfl⟩

/-! ### get -/
def getE (l : List DF) (s : ByteArray) : DF × Int := if nameOk s then (match getF l s with | none => (⟨s, [], 0⟩, 10) | some f => (f, 0)) else (⟨s, [], 0⟩, 1)
def RetGet (l : List DF) (s : ByteArray) (w : World) (e : Ending) (w' : World) : Prop :=
  ∃ g : RF, e = .returned (.tuple #[rfVal g, .int .i64 (getE l s).2]) ∧ g.f = (getE l s).1 ∧ RFOk w' g ∧ Below w.heap.size w w'
theorem RFOk.zero (w : World) (s : ByteArray) : RFOk w ⟨⟨s, [], 0⟩, none, 0⟩ := ⟨Or.inl rfl, Nat.le_refl _⟩
set_option maxHeartbeats 400000 in
theorem rGet_any30 (a : Option Addr) (cap : Nat) (l : List RF) (s : ByteArray) (w : World) (hl : l.length ≤ 1073741824) (hs : s.size ≤ maxLen) (h : RFsIn w a l) :
    Calls Try.prog 42 #[.slice a l.length cap, .string s] w (RetGet (rfsOf l) s w) := by
  have HR := Lib.hid (fun W => rRightName_any s W hs)
  by_cases hok : nameOk s = true
  case neg =>
    rw [Bool.eq_false_iff.2 hok] at HR
    have HV : Hid (getE (rfsOf l) s = (⟨s, [], 0⟩, 1)) := by unfold Hid getE; rw [if_neg hok]
    clear hok
    go_enter Try.func42, Try.ntmps42
    go_wp2_with (go_at_call 12; (with_reducible refine (HR.out _).mono ?_); rintro e w1 ⟨rfl, rfl⟩)
    refine retCT 4 5 46 46 (w.heap.size) _ _ _ rfl rfl rfl (heap_last0 _ _) Try.underlying46 rfl (by kernel_rfl) rfl ?_
    exact ⟨⟨⟨s, [], 0⟩, none, 0⟩, by rw [HV.out]; rfl, by rw [HV.out], .zero _ _, by go_grown⟩
  case pos =>
  rw [hok] at HR
  have hV : getE (rfsOf l) s = match getF (rfsOf l) s with | none => (⟨s, [], 0⟩, 10) | some f => (f, 0) := by unfold getE; rw [if_pos hok]
  have HV := Lib.hid hV
  clear hok hV
  go_enter Try.func42, Try.ntmps42
  go_wp2_with (go_at_call 12; (with_reducible refine (HR.out _).mono ?_); rintro e w1 ⟨rfl, rfl⟩)
  go_loop [6] (fun i => ∃ k : Nat, k ≤ l.length ∧ i = .int .i64 k ∧ getF (rfsOf l) s = getF ((rfsOf l).drop k) s) (fun i => l.length - (intOf i).toNat)
  case atStart => exact ⟨0, Nat.zero_le _, rfl, by rw [List.drop_zero]⟩
  case round =>
    obtain ⟨k, hk, rfl, hpre⟩ := hrel
    have HP := Lib.hid hpre
    clear hpre
    by_cases hlt : k < l.length
    · obtain ⟨A, off, rfl, hrows, hok⟩ := h.at hlt
      have b0 := hrows k hlt 0 _ rfl
      rw [Nat.add_zero] at b0
      have c0 := fun o => kept ((Below.refl _ w).alloc (Nat.le_refl _) o) b0
      have c1 := fun o => kept ((Below.refl _ w).alloc (Nat.le_refl _) o) (hrows k hlt 1 _ rfl)
      have c2 := fun o => kept ((Below.refl _ w).alloc (Nat.le_refl _) o) (hrows k hlt 2 _ rfl)
      clear b0
      have HD := Lib.hid (rfs_drop l k hlt)
      have HK := Lib.hid hok
      clear hrows hok
      by_cases hc : l[k].f.name = s
      · have HE : Hid (getE (rfsOf l) s = (l[k].f, 0)) := by rw [Hid, HV.out, HP.out, HD.out, getF_cons, if_pos hc]
        have hq : (l[k].f.name.toList == s.toList) = true := by rw [hc]; simp
        clear HP HD HV hc
        generalize l[k] = x at *
        go_wp2
        refine retCT 4 5 46 46 (w.heap.size) _ _ _ rfl rfl rfl (heap_last0 _ _) Try.underlying46 rfl (by kernel_rfl) rfl ?_
        exact ⟨x, by rw [HE.out]; rfl, by rw [HE.out], HK.out.kept (by go_grown), by go_grown⟩
      · have HE : Hid (getF (rfsOf l) s = getF ((rfsOf l).drop (k + 1)) s) := by rw [Hid, HP.out, HD.out, getF_cons, if_neg hc]
        have hq : (l[k].f.name.toList == s.toList) = false := by rw [str_beq]; exact decide_eq_false fun e => hc (bl_inj e)
        clear HP HD hc HK
        generalize l[k] = x at *
        go_wp2
        go_round
        case rel => exact ⟨k + 1, by omega, by go_num, HE.out⟩
        case measure => simp [intOf]; omega
    · have HE : Hid (getE (rfsOf l) s = (⟨s, [], 0⟩, 10)) := by rw [Hid, HV.out, HP.out, List.drop_of_length_le (by simpa using Nat.le_of_not_lt hlt)]; rfl
      go_wp2
      refine retCT 4 5 46 46 (w.heap.size) _ _ _ rfl rfl rfl (heap_last0 _ _) Try.underlying46 rfl (by kernel_rfl) rfl ?_
      exact ⟨⟨⟨s, [], 0⟩, none, 0⟩, by rw [HE.out]; rfl, by rw [HE.out], .zero _ _, by go_grown⟩
end Go.Proofs.Ytbkelbdeodbhcaa
