/- ascii.Lower, Number. -/
import Derived.Test.YtdlhbmhdcdfocaaAsciiB
set_option linter.unusedSimpArgs false
set_option linter.unusedVariables false
set_option linter.unnecessarySimpa false
namespace Go.Proofs.Ytdlhbmhdcdfocaa
open Go.RowKit

theorem lower_set (l : Bytes) (k : Nat) (h : k < l.length) : (lowerL (l.take k) ++ l.drop k).set k (lowerB l[k]) = lowerL (l.take (k + 1)) ++ l.drop (k + 1) := by
  rw [List.set_append_right _ _ (by simp [lowerL]; omega)]
  have e : k - (lowerL (l.take k)).length = 0 := by simp [lowerL]; omega
  rw [e, List.drop_eq_getElem_cons h, List.set_cons_zero, List.take_succ_eq_append_getElem h]
  simp only [lowerL, List.map_append, List.map_cons, List.map_nil, List.append_assoc, List.singleton_append]
theorem lower_get (l : Bytes) (k : Nat) (h : k < l.length) : (lowerL (l.take k) ++ l.drop k)[k]? = some l[k] := by
  rw [List.getElem?_append_right (by simp [lowerL]; omega)]
  simp [lowerL, Nat.min_eq_left (Nat.le_of_lt h)]

set_option maxRecDepth 100000 in
set_option maxHeartbeats 1000000 in
theorem Lower_any (s : ByteArray) (w : World) (hs : s.size ≤ 1073741824) :
    Calls Try.prog 47 #[.string s] w fun e w' => e = .returned (.string (mkS (lowerL (bl s)))) ∧ Below w.heap.size w w' := by
  obtain ⟨cap, w1, hconv, hb1, hz1, hcap, hby, hfr⟩ := conv_str (P := Try.prog) 9 42 5 Try.underlying9 Try.underlying42 Try.underlying5 w s
  go_enter Try.func47, Try.ntmps47
  go_wp2
  clear hconv
  go_loopw [4, 9] (fun _ i wr => ∃ k : Nat, k ≤ s.size ∧ i = .int .i64 k ∧ BytesAt wr w.heap.size 0 (lowerL ((bl s).take k) ++ (bl s).drop k) ∧ FreeAt wr w.heap.size 0 s.size ∧ Below w.heap.size w wr) (fun _ i _ => s.size - (intOf i).toNat)
  case atStart => exact ⟨0, Nat.zero_le _, rfl, by simpa [lowerL] using hby, hfr, hb1⟩
  case round =>
    obtain ⟨k, hk, rfl, hba, hfa, hbel⟩ := hrel
    by_cases hlt : k < s.size
    · have hlt' : k < (bl s).length := hlt
      have hll : (lowerL ((bl s).take k) ++ (bl s).drop k).length = s.size := by simp [lowerL, bl_length]; omega
      have hgk := lower_get (bl s) k hlt'
      have hck : wr.cell? ⟨w.heap.size, k, none⟩ = some (.int .u8 (bl s)[k].toNat) := by
        have := hba k (by omega)
        rw [Nat.zero_add] at this
        rw [this]
        have h2 := (List.getElem?_eq_some_iff.1 hgk).2
        rw [h2]
      have hfk : wr.frozen? ⟨w.heap.size, k, none⟩ = false := by have := hfa k hlt; rwa [Nat.zero_add] at this
      have hset := hba.set (k := k) (by omega) (lowerB (bl s)[k])
      rw [lower_set _ _ hlt', Nat.zero_add] at hset
      have hfs := hfa.set ⟨w.heap.size, k, none⟩ (.int .u8 (lowerB (bl s)[k]).toNat)
      have hbs := hbel.setCell (p := ⟨w.heap.size, k, none⟩) (Nat.le_refl _) (.int .u8 (lowerB (bl s)[k]).toNat)
      clear hgk hll
      generalize (bl s)[k] = x at *
      clear hlt'
      have HS := Lib.hid hset
      have HF := Lib.hid hfs
      have HB := Lib.hid hbs
      clear hset hfs hbs hba hfa hbel
      go_wp2_with (go_at_call 62; refine (lower_any _ _).mono ?_; rintro e w2 ⟨rfl, rfl⟩)
      go_roundw
      case rel => exact ⟨k + 1, by omega, by go_num, HS.out, HF.out, HB.out⟩
      case measure => simp [intOf]; omega
    · have hke : k = s.size := by omega
      subst hke
      rw [List.take_of_length_le (by simp [bl_length]), List.drop_eq_nil_of_le (by simp [bl_length]), List.append_nil] at hba
      have hback := run_convert_bytes_back (P := Try.prog) wr 42 9 5 ⟨w.heap.size, 0, none⟩ cap (lowerL (bl s)) Try.underlying42 Try.underlying5 Try.underlying9 (fun j hj => by
        have h2 := hba j hj
        rw [Nat.zero_add] at h2
        unfold Addr.add
        split
        · rename_i h0; subst h0; exact h2
        · simpa using h2)
      have hlen : (lowerL (bl s)).length = s.size := by simp [lowerL, bl_length]
      rw [hlen] at hback
      have HB := Lib.hid hbel
      clear hlen hba hfa hbel
      go_wp2
      go_ret
      exact ⟨rfl, HB.out⟩
end Go.Proofs.Ytdlhbmhdcdfocaa
