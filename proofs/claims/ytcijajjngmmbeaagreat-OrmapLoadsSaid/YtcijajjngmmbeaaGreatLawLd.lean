/- The law OrmapLoads, walked. Conditions: none. -/
import Derived.Test.YtcijajjngmmbeaaGreatLdM
import Derived.Test.YtcijajjngmmbeaaGreatIs
set_option linter.unusedSimpArgs false
set_option linter.unusedVariables false
set_option linter.unnecessarySimpa false
namespace Go.Proofs.YtcijajjngmmbeaaGreat
open Go.RowKit

/-- a map of the reference as an argument -/
structure RMArg (w : World) (y : RMIt) : Prop where
  ref : RMIn w y
  evs : EvsArg w y.aK y.K
section
variable {H : Type} {enc : TypeId × Value → H} {w : World} {base : Nat} {spare : Nat → Bool} {held : Bool}
open Go.ChangeShapes Go.WideShapes Go.ChangeAt
theorem trod_cap {P : Program} {t e : TypeId} {fuel : Nat} {a : Option Addr} {n c : Nat} {x : DataW H × List MemPlace} (ht : P.underlying t = some (.slice e)) (h : DataW.trod enc P w base spare held fuel t [.slice a n c] = some x) : n ≤ c := by
  rcases Deep.open_slice ht h with ⟨h0, _⟩ | ⟨a', len, cap, m, n', D, Pl, h0, _, hl, _⟩
  · simp only [List.cons.injEq, Value.slice.injEq, and_true] at h0
    omega
  · simp only [List.cons.injEq, Value.slice.injEq, and_true] at h0
    omega
set_option maxRecDepth 100000 in
theorem arg_rmap {r : Reach} {b0 : Nat} {v : Value} {d : DataW H} {p : List MemPlace} (hv : Value.okWide Tryz.prog w r b0 45 v) (h : DataW.Trod enc Tryz.prog w 0 spare held 45 v d p) :
    ∃ y : RMIt, v = rmVal y ∧ RMArg w y := by
  obtain ⟨⟨cs⟩, rfl, hsz⟩ := okWide_struct Tryz.underlying45 hv
  have hc : Tryz.prog.cellsOf 45 = 3 := by kernel_rfl
  rw [hc] at hsz
  obtain ⟨fuel, hf⟩ := h
  match cs, hsz with
  | [c0, c1, c2], _ =>
    simp only [Value.cells] at hf
    obtain ⟨_, _, h0⟩ := trod_field Tryz.underlying45 hf 0 _ rfl 1 (by kernel_rfl) [c0] rfl
    obtain ⟨_, _, h1⟩ := trod_field Tryz.underlying45 hf 1 _ rfl 1 (by kernel_rfl) [c1] rfl
    obtain ⟨_, _, h2⟩ := trod_field Tryz.underlying45 hf 2 _ rfl 1 (by kernel_rfl) [c2] rfl
    obtain ⟨ac, ctx, cc, e0, d0, _⟩ := open_mks h0
    obtain ⟨aK, K, cK, e1, dK⟩ := open_evs h1
    obtain ⟨ad, dead, cd, e2, d2, _⟩ := open_dots h2
    simp only [List.cons.injEq, and_true] at e0 e1 e2
    subst e0 e1 e2
    exact ⟨⟨ac, ctx, cc, aK, K, cK, ad, dead, cd⟩, rfl, ⟨⟨d0, dK.evs, d2, trod_cap Tryz.underlying43 h0, trod_cap Tryz.underlying22 h1, trod_cap Tryz.underlying40 h2⟩, dK⟩⟩
end

set_option maxRecDepth 100000 in
set_option maxHeartbeats 8000000 in
theorem lawLd_any (y : RMIt) (w : World) (hy : RMArg w y) :
    Calls Tryz.prog 11 #[rmVal y] w fun x w' => x = .returned (.bool true) ∧ Below w.heap.size w w' := by
  have HL0 : ∀ X, EvsIn X y.aK y.K → Calls Tryz.prog 14 #[.slice y.aK y.K.length y.cK, .int .i64 40] X fun x w' => x = .returned (.bool (lightAll 40 (evsOf y.K))) ∧ Below X.heap.size X w' := fun X h => LightAll_any y.aK y.cK 40 y.K X (by decide) hy.evs.len h (fun x hx => ⟨(hy.evs.each x hx).over, (hy.evs.each x hx).name, (hy.evs.each x hx).domain, (hy.evs.each x hx).path, (hy.evs.each x hx).value⟩)
  have HA := Lib.hid awake21_any
  have hI := hy.ref
  clear hy
  by_cases hcl : y.ctx.length ≤ 60
  case neg =>
    have hd1 : decide ((60 : Int) < (y.ctx.length : Int)) = true := decide_eq_true (by omega)
    clear hcl HL0
    go_enter Tryz.func11, Tryz.ntmps11
    go_upto_region 1 with fail
    refine wp_name (fun V hV => ?_)
    have hb0 : Below w.heap.size w V := by rw [hV.out]; go_grown
    have c0 : V.cell? ⟨w.heap.size, 0, none⟩ = some (.slice y.ac y.ctx.length y.cc) := by rw [hV.out]; go_simp
    have c1 : V.cell? ⟨w.heap.size, 1, none⟩ = some (.slice y.aK y.K.length y.cK) := by rw [hV.out]; go_simp
    have c2 : V.cell? ⟨w.heap.size, 2, none⟩ = some (.slice y.ad y.dead.length y.cd) := by rw [hV.out]; go_simp
    have hI0 := hI.keep hb0
    clear hV
    go_wp2_with (go_at_call 15; (with_reducible refine (HA.out _).mono ?_); rintro x w2 ⟨rfl, hb2⟩)
    go_ret
    exact ⟨rfl, hb0.trans (hb2.mono hb0.size)⟩
  have hd1 : decide ((60 : Int) < (y.ctx.length : Int)) = false := decide_eq_false (by omega)
  cases hli : lightAll 40 (evsOf y.K) with
  | false =>
    rw [hli] at HL0
    have HL := Lib.hid HL0
    clear HL0 hli
    go_enter Tryz.func11, Tryz.ntmps11
    go_upto_region 1 with fail
    refine wp_name (fun V hV => ?_)
    have hb0 : Below w.heap.size w V := by rw [hV.out]; go_grown
    have c0 : V.cell? ⟨w.heap.size, 0, none⟩ = some (.slice y.ac y.ctx.length y.cc) := by rw [hV.out]; go_simp
    have c1 : V.cell? ⟨w.heap.size, 1, none⟩ = some (.slice y.aK y.K.length y.cK) := by rw [hV.out]; go_simp
    have c2 : V.cell? ⟨w.heap.size, 2, none⟩ = some (.slice y.ad y.dead.length y.cd) := by rw [hV.out]; go_simp
    have hI0 := hI.keep hb0
    clear hV
    go_wp2_with (first
      | (go_at_call 14; (with_reducible refine (HL.out _ hI0.kept).mono ?_); rintro x w1 ⟨rfl, hb1⟩; have d2 := kept hb1 c2)
      | (go_at_call 15; (with_reducible refine (HA.out _).mono ?_); rintro x w2 ⟨rfl, hb2⟩))
    go_ret
    exact ⟨rfl, (hb0.trans (hb1.mono hb0.size)).trans (hb2.mono (Nat.le_trans hb0.size hb1.size))⟩
  | true =>
    obtain ⟨hls, hsl⟩ := light_evs hli
    rw [hli] at HL0
    have HL := Lib.hid HL0
    clear HL0 hli
    by_cases hdl : y.dead.length ≤ 60
    case neg =>
      have hd2 : decide ((60 : Int) < (y.dead.length : Int)) = true := decide_eq_true (by omega)
      clear hdl
      go_enter Tryz.func11, Tryz.ntmps11
      go_upto_region 1 with fail
      refine wp_name (fun V hV => ?_)
      have hb0 : Below w.heap.size w V := by rw [hV.out]; go_grown
      have c0 : V.cell? ⟨w.heap.size, 0, none⟩ = some (.slice y.ac y.ctx.length y.cc) := by rw [hV.out]; go_simp
      have c1 : V.cell? ⟨w.heap.size, 1, none⟩ = some (.slice y.aK y.K.length y.cK) := by rw [hV.out]; go_simp
      have c2 : V.cell? ⟨w.heap.size, 2, none⟩ = some (.slice y.ad y.dead.length y.cd) := by rw [hV.out]; go_simp
      have hI0 := hI.keep hb0
      clear hV
      go_wp2_with (first
        | (go_at_call 14; (with_reducible refine (HL.out _ hI0.kept).mono ?_); rintro x w1 ⟨rfl, hb1⟩; have d2 := kept hb1 c2)
        | (go_at_call 15; (with_reducible refine (HA.out _).mono ?_); rintro x w2 ⟨rfl, hb2⟩))
      go_ret
      exact ⟨rfl, (hb0.trans (hb1.mono hb0.size)).trans (hb2.mono (Nat.le_trans hb0.size hb1.size))⟩
    have hd2 : decide ((60 : Int) < (y.dead.length : Int)) = false := decide_eq_false (by omega)
    have hrl := fun (X : World) (h : RMIn X y) => rLoad21_any y X (by omega) (by omega) (by omega) hsl h
    by_cases hok : loadErr y.ctx y.K y.dead = 0
    · have HLy := Lib.hid (fun (X : World) (h : RMIn X y) => mLoad_yes y X hsl h hok)
      have HOK := Lib.hid (loadErr_ok hok).2
      have HSM := Lib.hid hsl
      rw [hok] at hrl
      have HRL := Lib.hid hrl
      clear hrl hok hsl
      go_enter Tryz.func11, Tryz.ntmps11
      go_upto_region 1 with fail
      refine wp_name (fun V hV => ?_)
      have hb0 : Below w.heap.size w V := by rw [hV.out]; go_grown
      have c0 : V.cell? ⟨w.heap.size, 0, none⟩ = some (.slice y.ac y.ctx.length y.cc) := by rw [hV.out]; go_simp
      have c1 : V.cell? ⟨w.heap.size, 1, none⟩ = some (.slice y.aK y.K.length y.cK) := by rw [hV.out]; go_simp
      have c2 : V.cell? ⟨w.heap.size, 2, none⟩ = some (.slice y.ad y.dead.length y.cd) := by rw [hV.out]; go_simp
      have hI0 := hI.keep hb0
      clear hV
      go_upto_region 4 with (first
        | (go_at_call 14; (with_reducible refine (HL.out _ hI0.kept).mono ?_); rintro x w1 ⟨rfl, hb1⟩; have d0 := kept hb1 c0; have d1 := kept hb1 c1; have d2 := kept hb1 c2; have hI1 := hI0.keep hb1)
        | (go_at_call 57; (with_reducible refine (HLy.out _ hI1).mono ?_); rintro x w2 ⟨m, b, s, rfl, hm2, hi2, hr2, hdl2, hf2, hme2, hb2⟩))
      have e0 := kept hb2 d0
      have e1 := kept hb2 d1
      have e2 := kept hb2 d2
      have hI2 := hI1.keep hb2
      have hbw2 : Below w.heap.size w w2 := (hb0.trans (hb1.mono hb0.size)).trans (hb2.mono (Nat.le_trans hb0.size hb1.size))
      have hctx : s.ctx.length ≤ 4096 := by
        have h9 : y.ctx = s.ctx := hr2.ctx
        rw [← h9]; omega
      have hsmK : ∀ x ∈ s.K, EvSmall x.1 := fun x hx => by
        obtain ⟨z, hz, e⟩ := List.mem_map.1 (hme2 x hx)
        rw [← e]
        exact HSM.out z hz
      have HEn := Lib.hid (isEnd (m := m) (b := b) hi2 hr2 hctx (by omega) hsmK)
      clear c0 c1 c2 d0 d1 d2 hb0 hb1 hb2 hI0 hI1 hI hi2 hr2 hf2 hme2 hctx hsmK HL HLy
      go_wp2_with (first
        | (go_at_call 58; (with_reducible refine (HRL.out _ hI2).mono ?_); rintro x w3 ⟨rfl, hb3⟩; have g0 := kept hb3 e0; have g1 := kept hb3 e1; have g2 := kept hb3 e2; have hI3 := hI2.keep hb3; have hm3 := hm2.kept_w hb3)
        | (go_at_call 40; (with_reducible refine (isMap_any HEn.out _ hm3 hI3).mono ?_); rintro x w4 ⟨rfl, hb4⟩)
        | (go_at_call 15; (with_reducible refine (HA.out _).mono ?_); rintro x w5 ⟨rfl, hb5⟩))
      go_ret
      exact ⟨rfl, ((hbw2.trans (hb3.mono hbw2.size)).trans (hb4.mono (Nat.le_trans hbw2.size hb3.size))).trans (hb5.mono (Nat.le_trans (Nat.le_trans hbw2.size hb3.size) hb4.size))⟩
    · have HLn := Lib.hid (fun (X : World) (h : RMIn X y) => mLoad_no y X (by omega) (by omega) (by omega) hsl h hok)
      have HRL := Lib.hid hrl
      have hne : (loadErr y.ctx y.K y.dead != 0) = true := bne_iff_ne.2 hok
      have hee : (loadErr y.ctx y.K y.dead == loadErr y.ctx y.K y.dead) = true := beq_self_eq_true _
      clear hrl hok hsl
      generalize loadErr y.ctx y.K y.dead = le at *
      go_enter Tryz.func11, Tryz.ntmps11
      go_upto_region 1 with fail
      refine wp_name (fun V hV => ?_)
      have hb0 : Below w.heap.size w V := by rw [hV.out]; go_grown
      have c0 : V.cell? ⟨w.heap.size, 0, none⟩ = some (.slice y.ac y.ctx.length y.cc) := by rw [hV.out]; go_simp
      have c1 : V.cell? ⟨w.heap.size, 1, none⟩ = some (.slice y.aK y.K.length y.cK) := by rw [hV.out]; go_simp
      have c2 : V.cell? ⟨w.heap.size, 2, none⟩ = some (.slice y.ad y.dead.length y.cd) := by rw [hV.out]; go_simp
      have hI0 := hI.keep hb0
      clear hV
      go_wp2_with (first
        | (go_at_call 14; (with_reducible refine (HL.out _ hI0.kept).mono ?_); rintro x w1 ⟨rfl, hb1⟩; have d0 := kept hb1 c0; have d1 := kept hb1 c1; have d2 := kept hb1 c2; have hI1 := hI0.keep hb1)
        | (go_at_call 57; (with_reducible refine (HLn.out _ hI1).mono ?_); rintro x w2 ⟨rfl, hb2⟩; have e0 := kept hb2 d0; have e1 := kept hb2 d1; have e2 := kept hb2 d2; have hI2 := hI1.keep hb2)
        | (go_at_call 58; (with_reducible refine (HRL.out _ hI2).mono ?_); rintro x w3 ⟨rfl, hb3⟩)
        | (go_at_call 15; (with_reducible refine (HA.out _).mono ?_); rintro x w5 ⟨rfl, hb5⟩))
      go_ret
      have h1 := hb0.trans (hb1.mono hb0.size)
      have h2 := h1.trans (hb2.mono h1.size)
      have h3 := h2.trans (hb3.mono h2.size)
      exact ⟨rfl, h3.trans (hb5.mono h3.size)⟩
end Go.Proofs.YtcijajjngmmbeaaGreat
