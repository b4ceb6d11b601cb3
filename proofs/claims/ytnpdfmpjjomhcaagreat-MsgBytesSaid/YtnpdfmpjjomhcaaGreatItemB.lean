/- Which cookies may be: the reference's Right. Conditions: texts of at most 2^30 bytes. -/
import Derived.Test.YtnpdfmpjjomhcaaGreatItem
set_option linter.unusedSimpArgs false
set_option linter.unusedVariables false
set_option linter.unnecessarySimpa false
namespace Go.Proofs.YtnpdfmpjjomhcaaGreat
open Go.RowKit

theorem plainOk_name (l : Bytes) : plainOk 256 [59, 61] l = (decide (l.length ≤ 256) && (plainR l && decide (findB 61 l = none))) := by
  unfold plainOk plainR
  simp only [List.all_cons, List.all_nil, Bool.and_true]
  cases control l <;> cases decide (trim l = l) <;> simp [Bool.and_comm]
theorem plainOk_value (l : Bytes) : plainOk 1024 [59] l = (decide (l.length ≤ 1024) && plainR l) := by
  unfold plainOk plainR
  simp only [List.all_cons, List.all_nil, Bool.and_true]
  cases control l <;> cases decide (trim l = l) <;> simp [Bool.and_comm]
theorem itemOk_ref (k : Key) (c : Ck) : itemOk k c = (decide (¬ k.name.toList = []) && (decide ((k.name.size : Int) ≤ 256) && (plainR (bl k.name) && (decide (findI (bl k.name) 61 < 0) && (decide ((c.value.size : Int) ≤ 1024) && (plainR (bl c.value) && (canonical (bl k.domain) && (pathOk (bl k.path) && timesOk c)))))))) := by
  unfold itemOk
  rw [size_pos, plainOk_name, plainOk_value, bl_length, bl_length, findI_lt]
  rw [show decide ((k.name.size : Int) ≤ 256) = decide (k.name.size ≤ 256) by rw [Bool.eq_iff_iff]; simp; omega]
  rw [show decide ((c.value.size : Int) ≤ 1024) = decide (c.value.size ≤ 1024) by rw [Bool.eq_iff_iff]; simp; omega]
  simp only [Bool.and_assoc]

set_option maxRecDepth 100000 in
set_option maxHeartbeats 4000000 in
theorem rItemRight_p (k : Key) (c : Ck) (p : Bool) (hp : Hid (c.persistent = p)) (w : World) (h1 : k.name.size ≤ 1073741824) (h2 : k.domain.size ≤ 1073741824) (h4 : c.value.size ≤ 1073741824) :
    Calls Tryz.prog 53 #[.agg #[.string k.name, .string k.domain, .string k.path, .string c.value, .bool c.hostOnly, .bool c.secure, .bool c.httpOnly, .bool p, .int .i64 c.expiry, .int .i64 c.creation, .int .i64 c.access]] w fun e w' => e = .returned (.bool (itemOk k c)) ∧ Below w.heap.size w w' := by
  have HI := Lib.hid (itemOk_ref k c)
  have HPN0 := Lib.hid (fun (W : World) => rplain_any k.name W h1)
  have HPV0 := Lib.hid (fun (W : World) => rplain_any c.value W h4)
  have HF := Lib.hid (fun (W : World) => rFind_any k.name 61 W (by unfold maxLen; omega))
  have HC0 := Lib.hid (fun (W : World) => rCanonical_any k.domain W h2)
  generalize plainR (bl k.name) = b1 at HI HPN0
  generalize plainR (bl c.value) = b2 at HI HPV0
  generalize canonical (bl k.domain) = b3 at HI HC0
  generalize findI (bl k.name) 61 = fi at HI HF
  by_cases n0 : 0 < k.name.size
  · have t1 := str_ne n0
    have t1' := str_ne' n0
    by_cases n1 : (k.name.size : Int) ≤ 256
    · skip
      by_cases n2 : b1 = true
      · subst n2
        have HPN := HPN0
        by_cases n3 : fi < 0
        · skip
          by_cases n4 : (c.value.size : Int) ≤ 1024
          · skip
            by_cases n5 : b2 = true
            · subst n5
              have HPV := HPV0
              by_cases n6 : b3 = true
              · subst n6
                have HC := HC0
                by_cases n7 : 0 < k.path.size
                · have t2 := str_ne n7
                  have t2' := str_ne' n7
                  by_cases n8 : (k.path[0].toNat : Int) = 47
                  · have t3 : ((k.path[0].toNat : Int) != 47) = false := by rw [bne_eq_false_iff_eq]; exact n8
                    have N8 := Lib.hid n8
                    clear n8
                    by_cases n9 : (k.path.size : Int) ≤ 256
                    · skip
                      have HE : Hid (itemOk k c = timesOk c) := by rw [Hid, HI.out, path_yes n7 N8.out n9]; simp [t1, n1, n3, n4]
                      clear HI
                      cases p
                      · go_enter Tryz.func53, Tryz.ntmps53
                        go_upto_region 4 with fail
                        refine wp_name (fun W hW => ?_)
                        have ka0 : W.cell? ⟨w.heap.size + 1, 0, none⟩ = some (.string k.name) := by rw [hW.out]; go_simp
                        have ka1 : W.cell? ⟨w.heap.size + 1, 1, none⟩ = some (.string k.domain) := by rw [hW.out]; go_simp
                        have ka2 : W.cell? ⟨w.heap.size + 1, 2, none⟩ = some (.string k.path) := by rw [hW.out]; go_simp
                        have cb0 : W.cell? ⟨w.heap.size + 2, 0, none⟩ = some (.string c.value) := by rw [hW.out]; go_simp
                        have cb4 : W.cell? ⟨w.heap.size + 2, 4, none⟩ = some (.bool false) := by rw [hW.out]; go_simp
                        have cb5 : W.cell? ⟨w.heap.size + 2, 5, none⟩ = some (.int .i64 c.expiry) := by rw [hW.out]; go_simp
                        have cb6 : W.cell? ⟨w.heap.size + 2, 6, none⟩ = some (.int .i64 c.creation) := by rw [hW.out]; go_simp
                        have cb7 : W.cell? ⟨w.heap.size + 2, 7, none⟩ = some (.int .i64 c.access) := by rw [hW.out]; go_simp
                        have hb2 : Below w.heap.size w W := by rw [hW.out]; go_grown
                        clear hW
                        go_wp2_with (first
                          | (go_at_call 102; (with_reducible refine (HPN.out _).mono ?_); rintro e w2 ⟨rfl, rfl⟩)
                          | (go_at_call 102; (with_reducible refine (HPV.out _).mono ?_); rintro e w2 ⟨rfl, rfl⟩)
                          | (go_at_call 103; refine (HF.out _).mono ?_; rintro e w2 ⟨rfl, rfl⟩)
                          | (go_at_call 104; refine (HC.out _).mono ?_; rintro e w2 ⟨rfl, hb4⟩; replace ka2 := kept hb4 ka2; replace cb4 := kept hb4 cb4; replace cb5 := kept hb4 cb5; replace cb6 := kept hb4 cb6; replace cb7 := kept hb4 cb7; replace hb2 := below2 hb2 hb4; clear hb4))
                        all_goals
                          go_ret
                          exact ⟨ret_bool (by rw [HE.out]; unfold timesOk; rw [hp.out, Bool.eq_iff_iff]; simp [*] <;> omega), hb2⟩
                      · go_enter Tryz.func53, Tryz.ntmps53
                        go_upto_region 4 with fail
                        refine wp_name (fun W hW => ?_)
                        have ka0 : W.cell? ⟨w.heap.size + 1, 0, none⟩ = some (.string k.name) := by rw [hW.out]; go_simp
                        have ka1 : W.cell? ⟨w.heap.size + 1, 1, none⟩ = some (.string k.domain) := by rw [hW.out]; go_simp
                        have ka2 : W.cell? ⟨w.heap.size + 1, 2, none⟩ = some (.string k.path) := by rw [hW.out]; go_simp
                        have cb0 : W.cell? ⟨w.heap.size + 2, 0, none⟩ = some (.string c.value) := by rw [hW.out]; go_simp
                        have cb4 : W.cell? ⟨w.heap.size + 2, 4, none⟩ = some (.bool true) := by rw [hW.out]; go_simp
                        have cb5 : W.cell? ⟨w.heap.size + 2, 5, none⟩ = some (.int .i64 c.expiry) := by rw [hW.out]; go_simp
                        have cb6 : W.cell? ⟨w.heap.size + 2, 6, none⟩ = some (.int .i64 c.creation) := by rw [hW.out]; go_simp
                        have cb7 : W.cell? ⟨w.heap.size + 2, 7, none⟩ = some (.int .i64 c.access) := by rw [hW.out]; go_simp
                        have hb2 : Below w.heap.size w W := by rw [hW.out]; go_grown
                        clear hW
                        go_wp2_with (first
                          | (go_at_call 102; (with_reducible refine (HPN.out _).mono ?_); rintro e w2 ⟨rfl, rfl⟩)
                          | (go_at_call 102; (with_reducible refine (HPV.out _).mono ?_); rintro e w2 ⟨rfl, rfl⟩)
                          | (go_at_call 103; refine (HF.out _).mono ?_; rintro e w2 ⟨rfl, rfl⟩)
                          | (go_at_call 104; refine (HC.out _).mono ?_; rintro e w2 ⟨rfl, hb4⟩; replace ka2 := kept hb4 ka2; replace cb4 := kept hb4 cb4; replace cb5 := kept hb4 cb5; replace cb6 := kept hb4 cb6; replace cb7 := kept hb4 cb7; replace hb2 := below2 hb2 hb4; clear hb4))
                        all_goals
                          go_ret
                          exact ⟨ret_bool (by rw [HE.out]; unfold timesOk; rw [hp.out, Bool.eq_iff_iff]; simp [*] <;> omega), hb2⟩
                    · skip
                      have HE : Hid (itemOk k c = false) := by rw [Hid, HI.out]; rw [path_256 (by omega : 256 < (k.path.size : Int))]; simp
                      clear HI
                      go_enter Tryz.func53, Tryz.ntmps53
                      go_upto_region 4 with fail
                      refine wp_name (fun W hW => ?_)
                      have ka0 : W.cell? ⟨w.heap.size + 1, 0, none⟩ = some (.string k.name) := by rw [hW.out]; go_simp
                      have ka1 : W.cell? ⟨w.heap.size + 1, 1, none⟩ = some (.string k.domain) := by rw [hW.out]; go_simp
                      have ka2 : W.cell? ⟨w.heap.size + 1, 2, none⟩ = some (.string k.path) := by rw [hW.out]; go_simp
                      have cb0 : W.cell? ⟨w.heap.size + 2, 0, none⟩ = some (.string c.value) := by rw [hW.out]; go_simp
                      have cb4 : W.cell? ⟨w.heap.size + 2, 4, none⟩ = some (.bool p) := by rw [hW.out]; go_simp
                      have cb5 : W.cell? ⟨w.heap.size + 2, 5, none⟩ = some (.int .i64 c.expiry) := by rw [hW.out]; go_simp
                      have cb6 : W.cell? ⟨w.heap.size + 2, 6, none⟩ = some (.int .i64 c.creation) := by rw [hW.out]; go_simp
                      have cb7 : W.cell? ⟨w.heap.size + 2, 7, none⟩ = some (.int .i64 c.access) := by rw [hW.out]; go_simp
                      have hb2 : Below w.heap.size w W := by rw [hW.out]; go_grown
                      clear hW
                      go_wp2_with (first
                        | (go_at_call 102; (with_reducible refine (HPN.out _).mono ?_); rintro e w2 ⟨rfl, rfl⟩)
                        | (go_at_call 102; (with_reducible refine (HPV.out _).mono ?_); rintro e w2 ⟨rfl, rfl⟩)
                        | (go_at_call 103; refine (HF.out _).mono ?_; rintro e w2 ⟨rfl, rfl⟩)
                        | (go_at_call 104; refine (HC.out _).mono ?_; rintro e w2 ⟨rfl, hb4⟩; replace ka2 := kept hb4 ka2; replace cb4 := kept hb4 cb4; replace cb5 := kept hb4 cb5; replace cb6 := kept hb4 cb6; replace cb7 := kept hb4 cb7; replace hb2 := below2 hb2 hb4; clear hb4))
                      go_ret
                      exact ⟨ret_bool HE.out.symm, hb2⟩
                  · have t3 : ((k.path[0].toNat : Int) != 47) = true := by rw [bne_iff_ne]; exact n8
                    have N8 := Lib.hid n8
                    clear n8
                    have HE : Hid (itemOk k c = false) := by rw [Hid, HI.out]; rw [path_47 n7 N8.out]; simp
                    clear HI
                    go_enter Tryz.func53, Tryz.ntmps53
                    go_upto_region 4 with fail
                    refine wp_name (fun W hW => ?_)
                    have ka0 : W.cell? ⟨w.heap.size + 1, 0, none⟩ = some (.string k.name) := by rw [hW.out]; go_simp
                    have ka1 : W.cell? ⟨w.heap.size + 1, 1, none⟩ = some (.string k.domain) := by rw [hW.out]; go_simp
                    have ka2 : W.cell? ⟨w.heap.size + 1, 2, none⟩ = some (.string k.path) := by rw [hW.out]; go_simp
                    have cb0 : W.cell? ⟨w.heap.size + 2, 0, none⟩ = some (.string c.value) := by rw [hW.out]; go_simp
                    have cb4 : W.cell? ⟨w.heap.size + 2, 4, none⟩ = some (.bool p) := by rw [hW.out]; go_simp
                    have cb5 : W.cell? ⟨w.heap.size + 2, 5, none⟩ = some (.int .i64 c.expiry) := by rw [hW.out]; go_simp
                    have cb6 : W.cell? ⟨w.heap.size + 2, 6, none⟩ = some (.int .i64 c.creation) := by rw [hW.out]; go_simp
                    have cb7 : W.cell? ⟨w.heap.size + 2, 7, none⟩ = some (.int .i64 c.access) := by rw [hW.out]; go_simp
                    have hb2 : Below w.heap.size w W := by rw [hW.out]; go_grown
                    clear hW
                    go_wp2_with (first
                      | (go_at_call 102; (with_reducible refine (HPN.out _).mono ?_); rintro e w2 ⟨rfl, rfl⟩)
                      | (go_at_call 102; (with_reducible refine (HPV.out _).mono ?_); rintro e w2 ⟨rfl, rfl⟩)
                      | (go_at_call 103; refine (HF.out _).mono ?_; rintro e w2 ⟨rfl, rfl⟩)
                      | (go_at_call 104; refine (HC.out _).mono ?_; rintro e w2 ⟨rfl, hb4⟩; replace ka2 := kept hb4 ka2; replace cb4 := kept hb4 cb4; replace cb5 := kept hb4 cb5; replace cb6 := kept hb4 cb6; replace cb7 := kept hb4 cb7; replace hb2 := below2 hb2 hb4; clear hb4))
                    go_ret
                    exact ⟨ret_bool HE.out.symm, hb2⟩
                · have t2 := str_nil n7
                  have t2' := str_nil' n7
                  have HE : Hid (itemOk k c = false) := by rw [Hid, HI.out]; rw [path_no0 t2]; simp
                  clear HI
                  go_enter Tryz.func53, Tryz.ntmps53
                  go_upto_region 4 with fail
                  refine wp_name (fun W hW => ?_)
                  have ka0 : W.cell? ⟨w.heap.size + 1, 0, none⟩ = some (.string k.name) := by rw [hW.out]; go_simp
                  have ka1 : W.cell? ⟨w.heap.size + 1, 1, none⟩ = some (.string k.domain) := by rw [hW.out]; go_simp
                  have ka2 : W.cell? ⟨w.heap.size + 1, 2, none⟩ = some (.string k.path) := by rw [hW.out]; go_simp
                  have cb0 : W.cell? ⟨w.heap.size + 2, 0, none⟩ = some (.string c.value) := by rw [hW.out]; go_simp
                  have cb4 : W.cell? ⟨w.heap.size + 2, 4, none⟩ = some (.bool p) := by rw [hW.out]; go_simp
                  have cb5 : W.cell? ⟨w.heap.size + 2, 5, none⟩ = some (.int .i64 c.expiry) := by rw [hW.out]; go_simp
                  have cb6 : W.cell? ⟨w.heap.size + 2, 6, none⟩ = some (.int .i64 c.creation) := by rw [hW.out]; go_simp
                  have cb7 : W.cell? ⟨w.heap.size + 2, 7, none⟩ = some (.int .i64 c.access) := by rw [hW.out]; go_simp
                  have hb2 : Below w.heap.size w W := by rw [hW.out]; go_grown
                  clear hW
                  go_wp2_with (first
                    | (go_at_call 102; (with_reducible refine (HPN.out _).mono ?_); rintro e w2 ⟨rfl, rfl⟩)
                    | (go_at_call 102; (with_reducible refine (HPV.out _).mono ?_); rintro e w2 ⟨rfl, rfl⟩)
                    | (go_at_call 103; refine (HF.out _).mono ?_; rintro e w2 ⟨rfl, rfl⟩)
                    | (go_at_call 104; refine (HC.out _).mono ?_; rintro e w2 ⟨rfl, hb4⟩; replace ka2 := kept hb4 ka2; replace cb4 := kept hb4 cb4; replace cb5 := kept hb4 cb5; replace cb6 := kept hb4 cb6; replace cb7 := kept hb4 cb7; replace hb2 := below2 hb2 hb4; clear hb4))
                  go_ret
                  exact ⟨ret_bool HE.out.symm, hb2⟩
              · obtain rfl : b3 = false := by simpa using n6
                have HC := HC0
                have HE : Hid (itemOk k c = false) := by rw [Hid, HI.out]; simp
                clear HI
                go_enter Tryz.func53, Tryz.ntmps53
                go_upto_region 4 with fail
                refine wp_name (fun W hW => ?_)
                have ka0 : W.cell? ⟨w.heap.size + 1, 0, none⟩ = some (.string k.name) := by rw [hW.out]; go_simp
                have ka1 : W.cell? ⟨w.heap.size + 1, 1, none⟩ = some (.string k.domain) := by rw [hW.out]; go_simp
                have ka2 : W.cell? ⟨w.heap.size + 1, 2, none⟩ = some (.string k.path) := by rw [hW.out]; go_simp
                have cb0 : W.cell? ⟨w.heap.size + 2, 0, none⟩ = some (.string c.value) := by rw [hW.out]; go_simp
                have cb4 : W.cell? ⟨w.heap.size + 2, 4, none⟩ = some (.bool p) := by rw [hW.out]; go_simp
                have cb5 : W.cell? ⟨w.heap.size + 2, 5, none⟩ = some (.int .i64 c.expiry) := by rw [hW.out]; go_simp
                have cb6 : W.cell? ⟨w.heap.size + 2, 6, none⟩ = some (.int .i64 c.creation) := by rw [hW.out]; go_simp
                have cb7 : W.cell? ⟨w.heap.size + 2, 7, none⟩ = some (.int .i64 c.access) := by rw [hW.out]; go_simp
                have hb2 : Below w.heap.size w W := by rw [hW.out]; go_grown
                clear hW
                go_wp2_with (first
                  | (go_at_call 102; (with_reducible refine (HPN.out _).mono ?_); rintro e w2 ⟨rfl, rfl⟩)
                  | (go_at_call 102; (with_reducible refine (HPV.out _).mono ?_); rintro e w2 ⟨rfl, rfl⟩)
                  | (go_at_call 103; refine (HF.out _).mono ?_; rintro e w2 ⟨rfl, rfl⟩)
                  | (go_at_call 104; refine (HC.out _).mono ?_; rintro e w2 ⟨rfl, hb4⟩; replace ka2 := kept hb4 ka2; replace cb4 := kept hb4 cb4; replace cb5 := kept hb4 cb5; replace cb6 := kept hb4 cb6; replace cb7 := kept hb4 cb7; replace hb2 := below2 hb2 hb4; clear hb4))
                go_ret
                exact ⟨ret_bool HE.out.symm, hb2⟩
            · obtain rfl : b2 = false := by simpa using n5
              have HPV := HPV0
              have HE : Hid (itemOk k c = false) := by rw [Hid, HI.out]; simp
              clear HI
              go_enter Tryz.func53, Tryz.ntmps53
              go_upto_region 4 with fail
              refine wp_name (fun W hW => ?_)
              have ka0 : W.cell? ⟨w.heap.size + 1, 0, none⟩ = some (.string k.name) := by rw [hW.out]; go_simp
              have ka1 : W.cell? ⟨w.heap.size + 1, 1, none⟩ = some (.string k.domain) := by rw [hW.out]; go_simp
              have ka2 : W.cell? ⟨w.heap.size + 1, 2, none⟩ = some (.string k.path) := by rw [hW.out]; go_simp
              have cb0 : W.cell? ⟨w.heap.size + 2, 0, none⟩ = some (.string c.value) := by rw [hW.out]; go_simp
              have cb4 : W.cell? ⟨w.heap.size + 2, 4, none⟩ = some (.bool p) := by rw [hW.out]; go_simp
              have cb5 : W.cell? ⟨w.heap.size + 2, 5, none⟩ = some (.int .i64 c.expiry) := by rw [hW.out]; go_simp
              have cb6 : W.cell? ⟨w.heap.size + 2, 6, none⟩ = some (.int .i64 c.creation) := by rw [hW.out]; go_simp
              have cb7 : W.cell? ⟨w.heap.size + 2, 7, none⟩ = some (.int .i64 c.access) := by rw [hW.out]; go_simp
              have hb2 : Below w.heap.size w W := by rw [hW.out]; go_grown
              clear hW
              go_wp2_with (first
                | (go_at_call 102; (with_reducible refine (HPN.out _).mono ?_); rintro e w2 ⟨rfl, rfl⟩)
                | (go_at_call 102; (with_reducible refine (HPV.out _).mono ?_); rintro e w2 ⟨rfl, rfl⟩)
                | (go_at_call 103; refine (HF.out _).mono ?_; rintro e w2 ⟨rfl, rfl⟩)
                | (go_at_call 104; refine (HC.out _).mono ?_; rintro e w2 ⟨rfl, hb4⟩; replace ka2 := kept hb4 ka2; replace cb4 := kept hb4 cb4; replace cb5 := kept hb4 cb5; replace cb6 := kept hb4 cb6; replace cb7 := kept hb4 cb7; replace hb2 := below2 hb2 hb4; clear hb4))
              go_ret
              exact ⟨ret_bool HE.out.symm, hb2⟩
          · skip
            have HE : Hid (itemOk k c = false) := by rw [Hid, HI.out]; simp [n4]
            clear HI
            go_enter Tryz.func53, Tryz.ntmps53
            go_upto_region 4 with fail
            refine wp_name (fun W hW => ?_)
            have ka0 : W.cell? ⟨w.heap.size + 1, 0, none⟩ = some (.string k.name) := by rw [hW.out]; go_simp
            have ka1 : W.cell? ⟨w.heap.size + 1, 1, none⟩ = some (.string k.domain) := by rw [hW.out]; go_simp
            have ka2 : W.cell? ⟨w.heap.size + 1, 2, none⟩ = some (.string k.path) := by rw [hW.out]; go_simp
            have cb0 : W.cell? ⟨w.heap.size + 2, 0, none⟩ = some (.string c.value) := by rw [hW.out]; go_simp
            have cb4 : W.cell? ⟨w.heap.size + 2, 4, none⟩ = some (.bool p) := by rw [hW.out]; go_simp
            have cb5 : W.cell? ⟨w.heap.size + 2, 5, none⟩ = some (.int .i64 c.expiry) := by rw [hW.out]; go_simp
            have cb6 : W.cell? ⟨w.heap.size + 2, 6, none⟩ = some (.int .i64 c.creation) := by rw [hW.out]; go_simp
            have cb7 : W.cell? ⟨w.heap.size + 2, 7, none⟩ = some (.int .i64 c.access) := by rw [hW.out]; go_simp
            have hb2 : Below w.heap.size w W := by rw [hW.out]; go_grown
            clear hW
            go_wp2_with (first
              | (go_at_call 102; (with_reducible refine (HPN.out _).mono ?_); rintro e w2 ⟨rfl, rfl⟩)
              | (go_at_call 102; (with_reducible refine (HPV.out _).mono ?_); rintro e w2 ⟨rfl, rfl⟩)
              | (go_at_call 103; refine (HF.out _).mono ?_; rintro e w2 ⟨rfl, rfl⟩)
              | (go_at_call 104; refine (HC.out _).mono ?_; rintro e w2 ⟨rfl, hb4⟩; replace ka2 := kept hb4 ka2; replace cb4 := kept hb4 cb4; replace cb5 := kept hb4 cb5; replace cb6 := kept hb4 cb6; replace cb7 := kept hb4 cb7; replace hb2 := below2 hb2 hb4; clear hb4))
            go_ret
            exact ⟨ret_bool HE.out.symm, hb2⟩
        · skip
          have HE : Hid (itemOk k c = false) := by rw [Hid, HI.out]; simp [n3]
          clear HI
          go_enter Tryz.func53, Tryz.ntmps53
          go_upto_region 4 with fail
          refine wp_name (fun W hW => ?_)
          have ka0 : W.cell? ⟨w.heap.size + 1, 0, none⟩ = some (.string k.name) := by rw [hW.out]; go_simp
          have ka1 : W.cell? ⟨w.heap.size + 1, 1, none⟩ = some (.string k.domain) := by rw [hW.out]; go_simp
          have ka2 : W.cell? ⟨w.heap.size + 1, 2, none⟩ = some (.string k.path) := by rw [hW.out]; go_simp
          have cb0 : W.cell? ⟨w.heap.size + 2, 0, none⟩ = some (.string c.value) := by rw [hW.out]; go_simp
          have cb4 : W.cell? ⟨w.heap.size + 2, 4, none⟩ = some (.bool p) := by rw [hW.out]; go_simp
          have cb5 : W.cell? ⟨w.heap.size + 2, 5, none⟩ = some (.int .i64 c.expiry) := by rw [hW.out]; go_simp
          have cb6 : W.cell? ⟨w.heap.size + 2, 6, none⟩ = some (.int .i64 c.creation) := by rw [hW.out]; go_simp
          have cb7 : W.cell? ⟨w.heap.size + 2, 7, none⟩ = some (.int .i64 c.access) := by rw [hW.out]; go_simp
          have hb2 : Below w.heap.size w W := by rw [hW.out]; go_grown
          clear hW
          go_wp2_with (first
            | (go_at_call 102; (with_reducible refine (HPN.out _).mono ?_); rintro e w2 ⟨rfl, rfl⟩)
            | (go_at_call 102; (with_reducible refine (HPV.out _).mono ?_); rintro e w2 ⟨rfl, rfl⟩)
            | (go_at_call 103; refine (HF.out _).mono ?_; rintro e w2 ⟨rfl, rfl⟩)
            | (go_at_call 104; refine (HC.out _).mono ?_; rintro e w2 ⟨rfl, hb4⟩; replace ka2 := kept hb4 ka2; replace cb4 := kept hb4 cb4; replace cb5 := kept hb4 cb5; replace cb6 := kept hb4 cb6; replace cb7 := kept hb4 cb7; replace hb2 := below2 hb2 hb4; clear hb4))
          go_ret
          exact ⟨ret_bool HE.out.symm, hb2⟩
      · obtain rfl : b1 = false := by simpa using n2
        have HPN := HPN0
        have HE : Hid (itemOk k c = false) := by rw [Hid, HI.out]; simp
        clear HI
        go_enter Tryz.func53, Tryz.ntmps53
        go_upto_region 4 with fail
        refine wp_name (fun W hW => ?_)
        have ka0 : W.cell? ⟨w.heap.size + 1, 0, none⟩ = some (.string k.name) := by rw [hW.out]; go_simp
        have ka1 : W.cell? ⟨w.heap.size + 1, 1, none⟩ = some (.string k.domain) := by rw [hW.out]; go_simp
        have ka2 : W.cell? ⟨w.heap.size + 1, 2, none⟩ = some (.string k.path) := by rw [hW.out]; go_simp
        have cb0 : W.cell? ⟨w.heap.size + 2, 0, none⟩ = some (.string c.value) := by rw [hW.out]; go_simp
        have cb4 : W.cell? ⟨w.heap.size + 2, 4, none⟩ = some (.bool p) := by rw [hW.out]; go_simp
        have cb5 : W.cell? ⟨w.heap.size + 2, 5, none⟩ = some (.int .i64 c.expiry) := by rw [hW.out]; go_simp
        have cb6 : W.cell? ⟨w.heap.size + 2, 6, none⟩ = some (.int .i64 c.creation) := by rw [hW.out]; go_simp
        have cb7 : W.cell? ⟨w.heap.size + 2, 7, none⟩ = some (.int .i64 c.access) := by rw [hW.out]; go_simp
        have hb2 : Below w.heap.size w W := by rw [hW.out]; go_grown
        clear hW
        go_wp2_with (first
          | (go_at_call 102; (with_reducible refine (HPN.out _).mono ?_); rintro e w2 ⟨rfl, rfl⟩)
          | (go_at_call 102; (with_reducible refine (HPV.out _).mono ?_); rintro e w2 ⟨rfl, rfl⟩)
          | (go_at_call 103; refine (HF.out _).mono ?_; rintro e w2 ⟨rfl, rfl⟩)
          | (go_at_call 104; refine (HC.out _).mono ?_; rintro e w2 ⟨rfl, hb4⟩; replace ka2 := kept hb4 ka2; replace cb4 := kept hb4 cb4; replace cb5 := kept hb4 cb5; replace cb6 := kept hb4 cb6; replace cb7 := kept hb4 cb7; replace hb2 := below2 hb2 hb4; clear hb4))
        go_ret
        exact ⟨ret_bool HE.out.symm, hb2⟩
    · skip
      have HE : Hid (itemOk k c = false) := by rw [Hid, HI.out]; simp [n1]
      clear HI
      go_enter Tryz.func53, Tryz.ntmps53
      go_upto_region 4 with fail
      refine wp_name (fun W hW => ?_)
      have ka0 : W.cell? ⟨w.heap.size + 1, 0, none⟩ = some (.string k.name) := by rw [hW.out]; go_simp
      have ka1 : W.cell? ⟨w.heap.size + 1, 1, none⟩ = some (.string k.domain) := by rw [hW.out]; go_simp
      have ka2 : W.cell? ⟨w.heap.size + 1, 2, none⟩ = some (.string k.path) := by rw [hW.out]; go_simp
      have cb0 : W.cell? ⟨w.heap.size + 2, 0, none⟩ = some (.string c.value) := by rw [hW.out]; go_simp
      have cb4 : W.cell? ⟨w.heap.size + 2, 4, none⟩ = some (.bool p) := by rw [hW.out]; go_simp
      have cb5 : W.cell? ⟨w.heap.size + 2, 5, none⟩ = some (.int .i64 c.expiry) := by rw [hW.out]; go_simp
      have cb6 : W.cell? ⟨w.heap.size + 2, 6, none⟩ = some (.int .i64 c.creation) := by rw [hW.out]; go_simp
      have cb7 : W.cell? ⟨w.heap.size + 2, 7, none⟩ = some (.int .i64 c.access) := by rw [hW.out]; go_simp
      have hb2 : Below w.heap.size w W := by rw [hW.out]; go_grown
      clear hW
      go_wp2_with (first
        | (go_at_call 102; (with_reducible refine (HPN.out _).mono ?_); rintro e w2 ⟨rfl, rfl⟩)
        | (go_at_call 102; (with_reducible refine (HPV.out _).mono ?_); rintro e w2 ⟨rfl, rfl⟩)
        | (go_at_call 103; refine (HF.out _).mono ?_; rintro e w2 ⟨rfl, rfl⟩)
        | (go_at_call 104; refine (HC.out _).mono ?_; rintro e w2 ⟨rfl, hb4⟩; replace ka2 := kept hb4 ka2; replace cb4 := kept hb4 cb4; replace cb5 := kept hb4 cb5; replace cb6 := kept hb4 cb6; replace cb7 := kept hb4 cb7; replace hb2 := below2 hb2 hb4; clear hb4))
      go_ret
      exact ⟨ret_bool HE.out.symm, hb2⟩
  · have t1 := str_nil n0
    have t1' := str_nil' n0
    have HE : Hid (itemOk k c = false) := by rw [Hid, HI.out]; simp [t1]
    clear HI
    go_enter Tryz.func53, Tryz.ntmps53
    go_upto_region 4 with fail
    refine wp_name (fun W hW => ?_)
    have ka0 : W.cell? ⟨w.heap.size + 1, 0, none⟩ = some (.string k.name) := by rw [hW.out]; go_simp
    have ka1 : W.cell? ⟨w.heap.size + 1, 1, none⟩ = some (.string k.domain) := by rw [hW.out]; go_simp
    have ka2 : W.cell? ⟨w.heap.size + 1, 2, none⟩ = some (.string k.path) := by rw [hW.out]; go_simp
    have cb0 : W.cell? ⟨w.heap.size + 2, 0, none⟩ = some (.string c.value) := by rw [hW.out]; go_simp
    have cb4 : W.cell? ⟨w.heap.size + 2, 4, none⟩ = some (.bool p) := by rw [hW.out]; go_simp
    have cb5 : W.cell? ⟨w.heap.size + 2, 5, none⟩ = some (.int .i64 c.expiry) := by rw [hW.out]; go_simp
    have cb6 : W.cell? ⟨w.heap.size + 2, 6, none⟩ = some (.int .i64 c.creation) := by rw [hW.out]; go_simp
    have cb7 : W.cell? ⟨w.heap.size + 2, 7, none⟩ = some (.int .i64 c.access) := by rw [hW.out]; go_simp
    have hb2 : Below w.heap.size w W := by rw [hW.out]; go_grown
    clear hW
    go_wp2_with (first
      | (go_at_call 102; (with_reducible refine (HPN.out _).mono ?_); rintro e w2 ⟨rfl, rfl⟩)
      | (go_at_call 102; (with_reducible refine (HPV.out _).mono ?_); rintro e w2 ⟨rfl, rfl⟩)
      | (go_at_call 103; refine (HF.out _).mono ?_; rintro e w2 ⟨rfl, rfl⟩)
      | (go_at_call 104; refine (HC.out _).mono ?_; rintro e w2 ⟨rfl, hb4⟩; replace ka2 := kept hb4 ka2; replace cb4 := kept hb4 cb4; replace cb5 := kept hb4 cb5; replace cb6 := kept hb4 cb6; replace cb7 := kept hb4 cb7; replace hb2 := below2 hb2 hb4; clear hb4))
    go_ret
    exact ⟨ret_bool HE.out.symm, hb2⟩
end Go.Proofs.YtnpdfmpjjomhcaaGreat
