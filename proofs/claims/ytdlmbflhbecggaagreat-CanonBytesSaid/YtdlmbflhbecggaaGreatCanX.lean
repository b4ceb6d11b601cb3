/- canon: the reference's View and Full. Conditions: as in the text. -/
import Derived.Test.YtdlmbflhbecggaaGreatMkP
import Derived.Test.YtdlmbflhbecggaaGreatCanS
import Derived.Test.YtdlmbflhbecggaaGreatLawKeys
set_option linter.unusedSimpArgs false
set_option linter.unusedVariables false
set_option linter.unnecessarySimpa false
set_option maxHeartbeats 16000000
set_option maxRecDepth 100000
namespace Go.Proofs.YtdlmbflhbecggaaGreat
open Go.RowKit
def brE (bare : Bool) (e : Ev) : Ev := if bare = true then { e with over := [] } else e
theorem Io {bare : Bool} {e : Ev} (h : cu e = true) (hk : bare = true → e.kind = 1) : cu (brE bare e) = true := by
 unfold brE
 split
 ·rename_i hb; exact uK h (hk hb)
 ·exact h
theorem oH : ∀ l : List Ev, (∀ e ∈ l, cu e = true) → (dZ l).length ≤ l.length * 8192
 | [], _ => Nat.zero_le _
 | x :: l, h => by
   have h2 := oH l fun e he => h e (List.mem_cons_of_mem _ he)
   have h3 := pq (h x List.mem_cons_self)
   show (evB x ++ dZ l).length ≤ _
   rw [List.length_append, List.length_cons]
   omega
theorem z115 {p : Prop} (h : p := by
 obtain rfl : k = ls.length := by omega
 rw [List.take_of_length_le (Nat.le_of_eq HBT.out.1)] at hown2
 go_wp2
 go_ret
 exact ⟨_, rfl, hown2, hbw⟩) : p := h
theorem z114 {p : Prop} (h : p := by
 have h1 := oH (bs.take k) fun e he => hbk e (List.mem_of_mem_take he)
 rw [List.length_take] at h1
 exact Nat.le_trans h1 (Nat.mul_le_mul_right _ (by omega))) : p := h
theorem z122 {p : Prop} (h : p := by
 have HZ := Lib.hid (And.intro hown4 (hB7.grown hg4 hB7.size (fun k hk => (wU.lt k hk).1)))
 clear hown4 hg4 wU hB7 Dz hown3 hb3 hown6 hB6 R5
 go_wp2
 go_roundw
 case rel => exact ⟨k + 1, HLT.out, by go_num, by rw [HT9.out]; exact HZ.out.1, HZ.out.2⟩
 case measure => exact z64) : p := h
theorem y29 {p q : Prop} (k : q) (h : PLift q → p := by
 intro kk
 refine aX (fun Wx hWx => ?_)
 have hbx : Below wr.heap.size wr Wx := by rw [hWx.out]; exact (Below.refl _ _).alloc (Nat.le_refl _) _
 have hRx : Wx.rangeAt wr.heap.size 0 (ah e ax cx) := by rw [hWx.out]; exact bY e ax cx wr _
 have hg9 : Wx.heap[wr.heap.size]? = some (.cells (ah e ax cx).toArray 64 (0, 0)) := by rw [hWx.out]; exact bV _ _
 have hfz : Wx.frozen? ⟨wr.heap.size, 18, none⟩ = false := by simp [World.frozen?, hg9]
 have v18 : Wx.cell? ⟨wr.heap.size, 18, none⟩ = some (.slice ax e.over.length cx) := by have := hRx 18 _ rfl; rwa [Nat.zero_add] at this
 revert Wx hWx hbx hRx hg9 hfz v18
 exact kk.down) : p := h ⟨k⟩
theorem Ew (a : Option Addr) (cap : Nat) (ls : List bg) (w : World) (hl : ls.length ≤ 2048) (hE : EvsIn w a ls) (hok : ∀ x ∈ ls, cu x.1 = true) :
 Calls Tryz.prog 52 #[.slice a ls.length cap, .bool false] w (eH (aN ls.length ++ dZ ((aQ ls).map (brE false))) w) := by
 obtain ⟨i0, hi, hz0, hz1, hz2⟩ := info_parts Tryz.infoByte
 have hsl := aV ls.length (by omega)
 have HN := Lib.hid (fun (W : World) => fM ls.length W (by omega))
 obtain ⟨bs, hbs⟩ : ∃ bs, bs = (aQ ls).map (brE false) := ⟨_, rfl⟩
 rw [← hbs]
 have hbl : bs.length = ls.length := by rw [hbs, List.length_map, aJ]
 have hbk : ∀ e ∈ bs, cu e = true := fun e he => by
  rw [hbs] at he
  obtain ⟨y, hy, rfl⟩ := List.mem_map.1 he
  obtain ⟨x, hx, rfl⟩ := List.mem_map.1 hy
  exact Io (hok x hx) (fun h => by cases h)
 have hbt : ∀ k (hk : k < ls.length), bs.take (k + 1) = bs.take k ++ [brE false ls[k].1] := fun k hk => by
  exact z85
 have hel : ∀ k, (dZ (bs.take k)).length ≤ 2048 * 8192 := fun k => by
  exact z114
 have HBT := Lib.hid (And.intro hbl hbt)
 have HEL := Lib.hid hel
 have HOK := Lib.hid hok
 obtain ⟨M, hM⟩ : ∃ M, M = aN ls.length := ⟨_, rfl⟩
 rw [← hM] at HN hsl ⊢
 clear hM hbs hbl hbk hbt hel hok
 go_enter Tryz.func52, Tryz.ntmps52
 go_upto_region 2 with (go_at_call 53; (with_reducible refine (HN.out _).mono ?_); rintro x W ⟨v, rfl, hown, hbt⟩)
 have hzW := hbt.size
 go_wp2
 go_loopw [5, 6] (fun out i wr => ∃ k : Nat, k ≤ ls.length ∧ i = .int .i64 k ∧ wr.ownsRow w.heap.size 5 1 out (M ++ dZ (bs.take k)).length (aW (M ++ dZ (bs.take k))) ∧ Below w.heap.size w wr) (fun _ i _ => ls.length - (intOf i).toNat)
 case atStart => exact ⟨0, Nat.zero_le _, rfl, by simpa [dZ] using hown, hbt⟩
 case round =>
  obtain ⟨k, hk, rfl, hown2, hbw⟩ := hrel
  clear hown hbt
  have hzw := hbw.size
  by_cases hlt : k < ls.length
  ·obtain ⟨A, off, rfl, hra, hda⟩ := (hE.kept hbw).at hlt
   have r1 := hra k hlt
   have hoe := HOK.out _ (List.getElem_mem hlt)
   have HT : Hid (M ++ dZ (bs.take (k + 1)) = (M ++ dZ (bs.take k)) ++ evB (brE false ls[k].1)) := by
        exact z142
   have hln : (M ++ dZ (bs.take k)).length ≤ 16800000 := by have := HEL.out k; rw [List.length_append]; omega
   have HLT := Lib.hid hlt
   clear hra
   generalize ls[k] = x at *
   obtain ⟨e, ax, cx⟩ := x
   simp only [jP] at r1
   simp only at hoe HT hda
   obtain ⟨L, hL⟩ : ∃ L, L = M ++ dZ (bs.take k) := ⟨_, rfl⟩
   rw [← hL] at hown2 hln HT
   clear hL hlt
   go_upto_region 6 with (first
        | ((with_reducible refine aY _ A (off + k * 19) e ax cx r1 ?_ rfl ?_); exact rfl)
        | (refine bQ 64 _ _ _ (ah e ax cx).toArray rfl rfl (by kernel_rfl) rfl (by kernel_rfl) ?_))
   refine y29 ?_
   intro Wx hWx hbx hRx hg9 hfz v18
   clear hWx r1 hg9
   go_upto_region 8 with fail
   refine aX (fun W6 hW6 => ?_)
   have hb6 : Below wr.heap.size wr W6 := by rw [hW6.out]; exact hbx
   have R5 : W6.rangeAt wr.heap.size 0 (ah e ax cx) := by rw [hW6.out]; exact hRx
   obtain ⟨e9, he9⟩ : ∃ e9 : Ev, e9 = e := ⟨_, rfl⟩
   have HT9 : Hid (M ++ dZ (bs.take (k + 1)) = L ++ evB e9) := by rw [Hid, HT.out, he9]; rfl
   rw [← he9] at R5 hoe hda
   have xN : cu e9 = true := hoe
   have HP := Lib.hid (yM e9 ax cx W6 (hda.kept hb6) (mP xN).tiny xN)
   clear he9 hoe
   have hxl := pq xN
   obtain ⟨X, hX⟩ : ∃ X, X = evB e9 := ⟨_, rfl⟩
   rw [← hX] at HT9 hxl HP
   have hB6 := hbw.trans (hb6.mono hzw)
   have hown6 := ownsRow_below hown2 hb6
   clear hX HT hW6 hRx hbx hfz v18 hown2 hbw hb6 hda xN
   go_wp2_with (first
        | ((with_reducible refine aY _ wr.heap.size 0 e9 ax cx R5 ?_ rfl ?_); exact rfl)
        | (go_at_call 106; (with_reducible refine HP.out.mono ?_); rintro v w3 ⟨vx, rfl, hown3, hb3⟩; obtain ⟨ay, cy, rfl, Dz⟩ := dH hown3; have hB7 := below2 hB6 hb3; have wU := ownsRow_below hown6 hb3)
        | (at_builtin; refine iy rfl _ _ rfl rfl w.heap.size _ L rfl wU ay X cy rfl Dz (by omega) hB7.size ?_; intro v4 w4 hown4 hg4))
   exact z122
  ·exact z115
theorem C9 (a : Option Addr) (cap : Nat) (ls : List bg) (w : World) (hl : ls.length ≤ 2048) (hE : EvsIn w a ls) (hok : ∀ x ∈ ls, cu x.1 = true ∧ x.1.kind = 1) :
 Calls Tryz.prog 52 #[.slice a ls.length cap, .bool true] w (eH (aN ls.length ++ dZ ((aQ ls).map (brE true))) w) := by
 obtain ⟨i0, hi, hz0, hz1, hz2⟩ := info_parts Tryz.infoByte
 have hsl := aV ls.length (by omega)
 have HN := Lib.hid (fun (W : World) => fM ls.length W (by omega))
 obtain ⟨bs, hbs⟩ : ∃ bs, bs = (aQ ls).map (brE true) := ⟨_, rfl⟩
 rw [← hbs]
 have hbl : bs.length = ls.length := by rw [hbs, List.length_map, aJ]
 have hbk : ∀ e ∈ bs, cu e = true := fun e he => by
  rw [hbs] at he
  obtain ⟨y, hy, rfl⟩ := List.mem_map.1 he
  obtain ⟨x, hx, rfl⟩ := List.mem_map.1 hy
  exact Io (hok x hx).1 (fun h => (hok x hx).2)
 have hbt : ∀ k (hk : k < ls.length), bs.take (k + 1) = bs.take k ++ [brE true ls[k].1] := fun k hk => by
  exact z85
 have hel : ∀ k, (dZ (bs.take k)).length ≤ 2048 * 8192 := fun k => by
  exact z114
 have HBT := Lib.hid (And.intro hbl hbt)
 have HEL := Lib.hid hel
 have HOK := Lib.hid hok
 obtain ⟨M, hM⟩ : ∃ M, M = aN ls.length := ⟨_, rfl⟩
 rw [← hM] at HN hsl ⊢
 clear hM hbs hbl hbk hbt hel hok
 go_enter Tryz.func52, Tryz.ntmps52
 go_upto_region 2 with (go_at_call 53; (with_reducible refine (HN.out _).mono ?_); rintro x W ⟨v, rfl, hown, hbt⟩)
 have hzW := hbt.size
 go_wp2
 go_loopw [5, 6] (fun out i wr => ∃ k : Nat, k ≤ ls.length ∧ i = .int .i64 k ∧ wr.ownsRow w.heap.size 5 1 out (M ++ dZ (bs.take k)).length (aW (M ++ dZ (bs.take k))) ∧ Below w.heap.size w wr) (fun _ i _ => ls.length - (intOf i).toNat)
 case atStart => exact ⟨0, Nat.zero_le _, rfl, by simpa [dZ] using hown, hbt⟩
 case round =>
  obtain ⟨k, hk, rfl, hown2, hbw⟩ := hrel
  clear hown hbt
  have hzw := hbw.size
  by_cases hlt : k < ls.length
  ·obtain ⟨A, off, rfl, hra, hda⟩ := (hE.kept hbw).at hlt
   have r1 := hra k hlt
   have hoe := HOK.out _ (List.getElem_mem hlt)
   have HT : Hid (M ++ dZ (bs.take (k + 1)) = (M ++ dZ (bs.take k)) ++ evB (brE true ls[k].1)) := by
        exact z142
   have hln : (M ++ dZ (bs.take k)).length ≤ 16800000 := by have := HEL.out k; rw [List.length_append]; omega
   have HLT := Lib.hid hlt
   clear hra
   generalize ls[k] = x at *
   obtain ⟨e, ax, cx⟩ := x
   simp only [jP] at r1
   simp only at hoe HT hda
   obtain ⟨L, hL⟩ : ∃ L, L = M ++ dZ (bs.take k) := ⟨_, rfl⟩
   rw [← hL] at hown2 hln HT
   clear hL hlt
   go_upto_region 6 with (first
        | ((with_reducible refine aY _ A (off + k * 19) e ax cx r1 ?_ rfl ?_); exact rfl)
        | (refine bQ 64 _ _ _ (ah e ax cx).toArray rfl rfl (by kernel_rfl) rfl (by kernel_rfl) ?_))
   refine y29 ?_
   intro Wx hWx hbx hRx hg9 hfz v18
   clear hWx r1 hg9
   go_upto_region 8 with fail
   refine aX (fun W6 hW6 => ?_)
   have hb6 : Below wr.heap.size wr W6 := by rw [hW6.out]; exact hbx.setCell (Nat.le_refl _) _
   have R5 : W6.rangeAt wr.heap.size 0 (ah { e with over := [] } none 0) := by rw [hW6.out]; exact yE hRx
   obtain ⟨e9, he9⟩ : ∃ e9 : Ev, e9 = { e with over := [] } := ⟨_, rfl⟩
   have xN : cu e9 = true := by rw [he9]; exact uK hoe.1 hoe.2
   have HT9 : Hid (M ++ dZ (bs.take (k + 1)) = L ++ evB e9) := by rw [Hid, HT.out, he9]; rfl
   have ho9 : e9.over = [] := by rw [he9]
   rw [← he9] at R5
   have HP := Lib.hid (yM e9 none 0 W6 (Or.inl ho9) (mP xN).tiny xN)
   obtain ⟨a9, ha9⟩ : ∃ a9 : Option Addr, a9 = none := ⟨_, rfl⟩
   have hz9 : e9.over.length = 0 := by rw [ho9]; rfl
   clear he9 ha9 a9 hoe
   have hxl := pq xN
   obtain ⟨X, hX⟩ : ∃ X, X = evB e9 := ⟨_, rfl⟩
   rw [← hX] at HT9 hxl HP
   have hB6 := hbw.trans (hb6.mono hzw)
   have hown6 := ownsRow_below hown2 hb6
   clear hX HT hW6 hRx hbx hfz v18 hown2 hbw hb6 hda xN
   go_wp2_with (first
        | ((with_reducible refine aY _ wr.heap.size 0 e9 none 0 R5 ?_ rfl ?_); exact rfl)
        | (go_at_call 106; (with_reducible refine HP.out.mono ?_); rintro v w3 ⟨vx, rfl, hown3, hb3⟩; obtain ⟨ay, cy, rfl, Dz⟩ := dH hown3; have hB7 := below2 hB6 hb3; have wU := ownsRow_below hown6 hb3)
        | (at_builtin; refine iy rfl _ _ rfl rfl w.heap.size _ L rfl wU ay X cy rfl Dz (by omega) hB7.size ?_; intro v4 w4 hown4 hg4))
   exact z122
  ·exact z115
theorem wL {l : List Dot} (h : bf l = 0) : (eX l).length ≤ 200000 := by
 obtain ⟨h0, _⟩ := lZ h
 have h4 := aV l.length (by omega)
 have h5 := eQ l
 unfold eX
 rw [List.length_append]
 omega
def tV (c : List Dot) (l : List Ev) : Bytes := eX c ++ (aN l.length ++ dZ (l.map (brE true)))
theorem Eh (x : RMIt) (w : World) (hI : RMIn w x) (hme : bf x.ctx = 0) (hK : x.K.length ≤ 2048) (hdl : x.dead.length ≤ 1048576) (hok : ∀ z ∈ x.K.filter (dO x.dead), cu z.1 = true ∧ z.1.kind = 1) :
 Calls Tryz.prog 14 #[nz x] w (eH (tV x.ctx (aQ (x.K.filter (dO x.dead)))) w) := by
 have HM := Lib.hid (fun (X : World) (h : DotsIn X x.ac x.ctx) => rO x.ac x.cc x.ctx X hme h)
 have HAl := Lib.hid (fun (X : World) (h : RMIn X x) => lY x X (by omega) hdl h)
 have hml := wL hme
 have SN : (x.K.filter (dO x.dead)).length ≤ 2048 := Nat.le_trans (List.length_filter_le _ _) hK
 have HOK := Lib.hid hok
 clear hok
 have FZ := fun (X : World) (aA : Option Addr) (cA : Nat) (hE : EvsIn X aA (x.K.filter (dO x.dead))) => C9 aA cA (x.K.filter (dO x.dead)) X SN hE HOK.out
 have hxl : (aN (x.K.filter (dO x.dead)).length ++ dZ ((aQ (x.K.filter (dO x.dead))).map (brE true))).length ≤ 16800000 := by
  have h1 := aV (x.K.filter (dO x.dead)).length (by omega)
  have h2 := oH ((aQ (x.K.filter (dO x.dead))).map (brE true)) fun e he => by
   obtain ⟨y, hy, rfl⟩ := List.mem_map.1 he
   obtain ⟨z, hz, rfl⟩ := List.mem_map.1 hy
   exact Io (HOK.out z hz).1 (fun _ => (HOK.out z hz).2)
  rw [List.length_map, aJ] at h2
  rw [List.length_append]
  omega
 unfold tV
 rw [aJ]
 obtain ⟨X5, hX5⟩ : ∃ X5, X5 = aN (x.K.filter (dO x.dead)).length ++ dZ ((aQ (x.K.filter (dO x.dead))).map (brE true)) := ⟨_, rfl⟩
 rw [← hX5] at FZ hxl ⊢
 obtain ⟨M, hM⟩ : ∃ M, M = eX x.ctx := ⟨_, rfl⟩
 rw [← hM] at HM hml ⊢
 have HEv := Lib.hid FZ
 clear hX5 hM FZ
 go_enter Tryz.func14, Tryz.ntmps14
 go_upto_region 1 with fail
 refine aX (fun W hW => ?_)
 have hb0 : Below w.heap.size w W.drew := by rw [hW.out]; go_grown
 have c0 : W.drew.cell? ⟨w.heap.size, 0, none⟩ = some (.slice x.ac x.ctx.length x.cc) := by rw [hW.out]; go_simp
 have c1 : W.drew.cell? ⟨w.heap.size, 1, none⟩ = some (.slice x.aK x.K.length x.cK) := by rw [hW.out]; go_simp
 have c2 : W.drew.cell? ⟨w.heap.size, 2, none⟩ = some (.slice x.ad x.dead.length x.cd) := by rw [hW.out]; go_simp
 have h1 := hI.keep hb0
 clear hW hI
 have Kr := h1.ctx
 go_region_law
  (first
   | (go_simp; go_at_call 51; (with_reducible refine (HM.out _ Kr).mono ?_); rintro e w3 ⟨v3, rfl, hown, hb3⟩; have k0 := kept hb3 c0; have k1 := kept hb3 c1; have k2 := kept hb3 c2; have h3 := h1.keep hb3; have AP := below2 hb0 hb3; have z3 := hb3.size; clear hb3)
   | (go_simp; go_at_call 42; (with_reducible refine (HAl.out _ h3).mono ?_); rintro e w4 ⟨aA, cA, rfl, hEA, _, hb4⟩; have own4 := ownsRow_below hown hb4; have Ku := below2 AP hb4; have z4 := hb4.size; clear hb4)
   | (go_simp; go_at_call 52; (with_reducible refine (HEv.out _ _ _ hEA).mono ?_); rintro e w5 ⟨v5, rfl, hown5, hb5⟩; obtain ⟨a5, c5, rfl, AC⟩ := dH hown5; have GL := ownsRow_below own4 hb5; have MW := below2 Ku hb5; have hzz := hb5.size; clear hb5)
   | (refine kE rfl (.tmp 5) (.tmp 8) rfl rfl W.drew.heap.size _ M rfl GL a5 X5 c5 rfl AC (by omega) (Nat.le_trans z3 (Nat.le_trans z4 hzz)) ?_; intro v6 w6 hown6 hg6))
 all_goals
  have HZ := Lib.hid (And.intro hown6 (MW.grown hg6 MW.size (fun k hk => Nat.le_trans hb0.size (GL.lt k hk).1)))
  clear hown6 hg6 GL AC MW
  go_wp2
  go_ret
  exact ⟨_, rfl, own_base HZ.out.1 hb0.size, HZ.out.2⟩
theorem KN (l : List Ev) : l.map (brE false) = l := by
 have : brE false = id := funext fun e => rfl
 rw [this, List.map_id]
def tX (c : List Dot) (K : List Ev) (d : List Dot) : Bytes := eX c ++ (aN K.length ++ dZ K) ++ aN d.length ++ bU d
theorem Ep (x : RMIt) (w : World) (hI : RMIn w x) (hme : bf x.ctx = 0) (hK : x.K.length ≤ 2048) (hdl : x.dead.length ≤ 1048576) (hok : ∀ z ∈ x.K, cu z.1 = true) (hdk : ∀ d ∈ x.dead, bu d = true) :
 Calls Tryz.prog 15 #[nz x] w (eH (tX x.ctx (aQ x.K) x.dead) w) := by
 have HM := Lib.hid (fun (X : World) (h : DotsIn X x.ac x.ctx) => rO x.ac x.cc x.ctx X hme h)
 have FZ := fun (X : World) (hE : EvsIn X x.aK x.K) => Ew x.aK x.cK x.K X hK hE hok
 have HN := Lib.hid (fun (X : World) => fM x.dead.length X (by omega))
 have hml := wL hme
 have hsl := aV x.dead.length (by omega)
 have HDK := Lib.hid hdk
 have hxl : (aN x.K.length ++ dZ (aQ x.K)).length ≤ 16800000 := by
  have h1 := aV x.K.length (by omega)
  have h2 := oH (aQ x.K) fun e he => by
   obtain ⟨z, hz, rfl⟩ := List.mem_map.1 he
   exact hok z hz
  rw [aJ] at h2
  rw [List.length_append]
  omega
 rw [KN] at FZ
 unfold tX
 rw [aJ]
 obtain ⟨X5, hX5⟩ : ∃ X5, X5 = aN x.K.length ++ dZ (aQ x.K) := ⟨_, rfl⟩
 rw [← hX5] at FZ hxl ⊢
 obtain ⟨M, hM⟩ : ∃ M, M = eX x.ctx := ⟨_, rfl⟩
 rw [← hM] at HM hml ⊢
 have HEv := Lib.hid FZ
 clear hX5 hM FZ hok hdk hme
 go_enter Tryz.func15, Tryz.ntmps15
 go_upto_region 1 with fail
 refine aX (fun W hW => ?_)
 have hb0 : Below w.heap.size w W.drew := by rw [hW.out]; go_grown
 have c0 : W.drew.cell? ⟨w.heap.size, 0, none⟩ = some (.slice x.ac x.ctx.length x.cc) := by rw [hW.out]; go_simp
 have c1 : W.drew.cell? ⟨w.heap.size, 1, none⟩ = some (.slice x.aK x.K.length x.cK) := by rw [hW.out]; go_simp
 have c2 : W.drew.cell? ⟨w.heap.size, 2, none⟩ = some (.slice x.ad x.dead.length x.cd) := by rw [hW.out]; go_simp
 have h1 := hI.keep hb0
 clear hW hI
 have Kr := h1.ctx
 have hkk := h1.kept
 have H1 := Lib.hid (And.intro h1 c2)
 go_region_law
  (first
   | (go_simp; go_at_call 51; (with_reducible refine (HM.out _ Kr).mono ?_); rintro e w3 ⟨v3, rfl, hown, hb3⟩; have k0 := kept hb3 c0; have k1 := kept hb3 c1; have hk3 := hkk.kept hb3; have AP := below2 hb0 hb3; have z3 := hb3.size; have Hb3 := Lib.hid hb3; clear hb3)
   | (go_simp; go_at_call 52; (with_reducible refine (HEv.out _ hk3).mono ?_); rintro e w5 ⟨v5, rfl, hown5, hb5⟩; obtain ⟨a5, c5, rfl, AC⟩ := dH hown5; have GL := ownsRow_below hown hb5; have MW := below2 AP hb5; have hzz := hb5.size; have Hb5 := Lib.hid hb5; clear hb5)
   | (refine kE rfl (.tmp 7) (.tmp 10) rfl rfl W.drew.heap.size _ M rfl GL a5 X5 c5 rfl AC (by omega) (Nat.le_trans z3 hzz) ?_; intro v6 w6 hown6 hg6))
 all_goals
  have hbD : Below W.drew.heap.size W.drew w6 := (Hb3.out.trans (Hb5.out.mono z3)).grown hg6 (Nat.le_trans z3 hzz) (fun k hk => (GL.lt k hk).1)
  have HB0 := Lib.hid hb0
  have HZ := Lib.hid (And.intro hown6 (And.intro hbD (And.intro H1.out.1.dead H1.out.2)))
  clear hown6 hg6 GL AC MW hbD hown hown5 hb0 Hb3 Hb5 H1 h1 Kr hkk hk3 c0 c1 c2 k0 k1 AP z3 hzz HM HEv
  obtain ⟨Qo, bD6, hdd, hc2⟩ := HZ.out
  have Ui : (M ++ X5).length ≤ 17000001 := by rw [List.length_append]; omega
  generalize M ++ X5 = L0 at *
  generalize W.drew = W0 at *
  have d2 := kept bD6 hc2
  clear HZ hml hxl
  go_upto_region 3 with (first
   | (go_at_call 53; (with_reducible refine (HN.out _).mono ?_); rintro e w7 ⟨v7, rfl, wU, hb7⟩; obtain ⟨a7, c7, rfl, Hl⟩ := dH wU; have Pm := ownsRow_below Qo hb7; have bD7 := below2 bD6 hb7)
   | (at_builtin; refine iy rfl _ _ rfl rfl W0.heap.size _ L0 rfl Pm a7 _ c7 rfl Hl (by omega) bD7.size ?_; intro v8 w8 OU hg8))
  have bD8 := bD7.grown hg8 bD7.size (fun k hk => (Pm.lt k hk).1)
  have Ug : (L0 ++ aN x.dead.length).length ≤ 17000100 := by rw [List.length_append]; omega
  generalize L0 ++ aN x.dead.length = L1 at *
  clear Pm bD7 Qo bD6 wU Hl hg8 hb7 d2 HN
  go_wp2
  go_loopw [3, 4] (fun out i wr => ∃ k : Nat, k ≤ x.dead.length ∧ i = .int .i64 k ∧ wr.ownsRow W0.heap.size 5 1 out (L1 ++ bU (x.dead.take k)).length (aW (L1 ++ bU (x.dead.take k))) ∧ Below W0.heap.size W0 wr) (fun _ i _ => x.dead.length - (intOf i).toNat)
  case atStart => exact ⟨0, Nat.zero_le _, rfl, by simpa [bU] using OU, bD8⟩
  case round =>
   obtain ⟨k, hk, rfl, hown2, hbw⟩ := hrel
   clear OU bD8
   have d2 := kept hbw hc2
   by_cases hlt : k < x.dead.length
   ·obtain ⟨A, off, hA, q0, q1, q2⟩ := (hdd.kept hbw).at hlt
    have hoe := HDK.out _ (List.getElem_mem hlt)
    have HT : Hid (L1 ++ bU (x.dead.take (k + 1)) = (L1 ++ bU (x.dead.take k)) ++ jy x.dead[k]) := by
     unfold Hid
     rw [List.take_add_one, List.getElem?_eq_getElem hlt, Option.toList_some, kY, List.append_assoc]
    have hln : (L1 ++ bU (x.dead.take k)).length ≤ 60000000 := by
     have h1 := eQ (x.dead.take k)
     rw [List.length_take] at h1
     rw [List.length_append]; omega
    have HLT := Lib.hid hlt
    generalize x.dead[k] = d at *
    obtain ⟨L, hL⟩ : ∃ L, L = L1 ++ bU (x.dead.take k) := ⟨_, rfl⟩
    rw [← hL] at hown2 hln HT
    have HP := Lib.hid (nC d wr hoe)
    have Su := mQ d
    obtain ⟨X, hX⟩ : ∃ X, X = jy d := ⟨_, rfl⟩
    rw [← hX] at HT Su HP
    rw [hA] at d2
    clear hL hX hlt hoe hA
    go_wp2_with (first
     | (go_at_call 54; (with_reducible refine HP.out.mono ?_); rintro v w9 ⟨vx, rfl, BF, hb9⟩; obtain ⟨ay, cy, rfl, Dz⟩ := dH BF; have hB9 := below2 hbw hb9; have Pj := ownsRow_below hown2 hb9)
     | (at_builtin; refine iy rfl _ _ rfl rfl W0.heap.size _ L rfl Pj ay X cy rfl Dz (by omega) hB9.size ?_; intro v4 w4 hown4 hg4))
    have HZ := Lib.hid (And.intro hown4 (hB9.grown hg4 hB9.size (fun k hk => (Pj.lt k hk).1)))
    clear hown4 hg4 Pj hB9 Dz BF hb9 hown2 hbw d2 q0 q1 q2
    go_wp2
    go_roundw
    case rel => exact ⟨k + 1, HLT.out, by go_num, by rw [HT.out]; exact HZ.out.1, HZ.out.2⟩
    case measure => exact z64
   ·obtain rfl : k = x.dead.length := by omega
    rw [List.take_length] at hown2
    go_wp2
    go_ret
    exact ⟨_, rfl, own_base hown2 HB0.out.size, HB0.out.trans (hbw.mono HB0.out.size)⟩
end Go.Proofs.YtdlmbflhbecggaaGreat
