/-
  Package audit: the contract of Judge where the last numbers of one key are missing. Conditions: where the lines lie.
-/
import Derived.Test.YthpgkcfkpglkdaaAudConcat
import Derived.Test.YthpgkcfkpglkdaaAudFind
import Derived.Test.YthpgkcfkpglkdaaAudLine
import Derived.Sort.OwnSorted
import Derived.Shelf.SortM.Plain
import Derived.Shelf.Slices.CompactS
namespace Go.Proofs.Ythpgkcfkpglkdaa
open Go.RowKit Go.ChangeShapes Go.WideShapes Go.Shelf
set_option linter.unusedVariables false

theorem info_strJ : (Try.prog.info? 9).map (fun i => (i.zero, i.size, i.bytes)) = some (some (.string ByteArray.empty), 1, 16) := by kernel_rfl
theorem results_tmp4 {fn : Func} {t u v x : Tmp} (h : fn.results = #[.tmp t, .tmp u, .tmp v, .tmp x]) (tmps : Array Value) (P : Program) (w : World) : (results fn tmps).run P w = .ok (.tuple #[tmps.getD t undef, tmps.getD u undef, tmps.getD v undef, tmps.getD x undef]) w := by
  simp [results, h]
def keyC (k : ByteArray) : Value := .string k
def bl (k : ByteArray) : List UInt8 := k.data.toList
theorem enc_bl (k : ByteArray) : encStr (bl k) = .string k := by
  cases k; rfl
theorem own_keepJ {w w' : World} {base : Nat} {e : TypeId} {size n : Nat} {v : Value} {xs : List Value} (h : w.ownsRow base e size v n xs) (hb : Below w.heap.size w w') : w'.ownsRow base e size v n xs := by
  obtain ⟨h1, h2⟩ := h
  refine ⟨h1, ?_⟩
  rcases h2 with h2 | ⟨g, cap, cur, e1, e2, e3, e4⟩
  · exact .inl h2
  · exact .inr ⟨g, cap, cur, e1, e2, (hb.block g (block_lt e3)).trans e3, e4⟩
/-- What is told: where, and of which key. -/
structure Cut (l m : List Lin) (a : Nat) : Prop where
  len : m.length = l.length
  at_ : a < l.length
  key : ∀ i (h : i < l.length) (h' : i < m.length), m[i].key = l[i].key
  same : ∀ i (h : i < l.length) (h' : i < m.length), i < a → m[i].nums = l[i].nums
  cut : ∀ (h : a < l.length) (h' : a < m.length), m[a].nums = l[a].nums.take m[a].nums.length ∧ m[a].nums.length < l[a].nums.length
def JudgePost (k : ByteArray) (n : Nat) (w : World) (e : Ending) (w' : World) : Prop := e = .returned (.tuple #[.int .i64 1, .string k, .int .i64 n, .nilIface]) ∧ Below w.heap.size w w'
set_option maxRecDepth 100000 in
set_option maxHeartbeats 4000000 in
theorem ajudge_ok (F G : Nat → Prop) (A B : Option Addr) (c d : Nat) (l m : List Lin) (a : Nat) (w : World) (hl : SlA linE F w A c l) (hF : ∀ k, F k → k < w.heap.size) (hm : SlA linE G w B d m) (hG : ∀ k, G k → k < w.heap.size) (ha : AOk l) (hb : AOk m) (hc : Cut l m a) (kk : ByteArray) (nn : Nat) (hkk : ∀ h : a < l.length, kk = l[a].key) (hnn : ∀ h : a < m.length, nn = m[a].nums.length) :
    Calls Try.prog 8 #[.slice A l.length c, .slice B m.length d] w (JudgePost kk nn w) := by
  have HC := Lib.hid (aboth_ok F G A B c d l m w hl hF hm hG ha hb)
  have HL : Hid (∀ W, Below w.heap.size w W → SlA linE F W A c l) := fun W h => hl.keep fun k hk => h.block k (hF k hk)
  have HM : Hid (∀ W, Below w.heap.size w W → SlA linE G W B d m) := fun W h => hm.keep fun k hk => h.block k (hG k hk)
  have HF := Lib.hid hF
  have HG := Lib.hid hG
  have HA := Lib.hid ha
  have HB := Lib.hid hb
  have HCUT := Lib.hid hc
  have HKK := Lib.hid hkk
  have HNN := Lib.hid hnn
  have hl4 := ha.len
  have hm4 := hb.len
  have hal := hc.at_
  have hlm := hc.len
  clear hl hF hm hG ha hb hc hkk hnn
  obtain ⟨n, hn⟩ : ∃ n, n = l.length := ⟨_, rfl⟩
  have hn2 : m.length = n := by rw [hlm, hn]
  have HN := Lib.hid hn
  have HN2 := Lib.hid hn2
  obtain ⟨K, hK⟩ : ∃ K, K = l.map fun x => bl x.key := ⟨_, rfl⟩
  have HKL : Hid (K.length = n) := by show _ = _; rw [hK, List.length_map, hn]
  have HKS : Hid (K.Pairwise (· < ·)) := by
    show List.Pairwise _ _
    have h := HA.out.keys
    rw [List.pairwise_map] at h
    rw [hK, List.pairwise_map]
    exact h
  have HKAT : Hid (∀ i (h : i < l.length) (h' : i < K.length), K[i] = bl l[i].key) := fun i h h' => by subst hK; rw [List.getElem_map]
  have HCAT : Hid ((l ++ m).map (fun x => bl x.key) = K ++ K) := by
    show _ = _
    rw [List.map_append, ← hK]
    congr 1
    refine List.ext_getElem (by rw [List.length_map, HKL.out]; exact hn2) fun i h1 h2 => ?_
    rw [List.length_map] at h1
    rw [List.getElem_map, HKAT.out i (by omega) h2, HCUT.out.key i (by omega) h1]
  obtain ⟨V, hV⟩ : ∃ V : List Value, V = (l ++ m).map fun x => encStr (bl x.key) := ⟨_, rfl⟩
  have HV : Hid (V = (K ++ K).map encStr) := by show _ = _; rw [hV, ← HCAT.out, List.map_map]; rfl
  have HVAT : Hid (∀ i (h : i < (l ++ m).length), V[i]? = some (.string (l ++ m)[i].key)) := fun i h => by rw [hV, List.getElem?_map, List.getElem?_eq_getElem h]; show some (encStr (bl _)) = _; rw [enc_bl]
  clear hV
  have HCL : Hid ((l ++ m).length = 2 * n) := by show _ = _; rw [List.length_append, hn2, ← hn]; omega
  rw [← hn] at hl4 hal HC ⊢
  rw [hn2] at hm4 HC ⊢
  clear hn hn2 hlm hK
  go_enter Try.func8, Try.ntmps8
  go_wp2_with fail
  refine HC.out.mono ?_
  rintro e w1 ⟨rfl, b1⟩
  have B1 := Lib.hid b1
  clear b1 HC
  go_upto_region 5 with (fail)
  obtain ⟨W2, hW2⟩ : ∃ W2, W2 = w1.alloc (.cells #[.slice A n c, .slice B n d] 22) := ⟨_, rfl⟩
  have hbx : Below w1.heap.size w1 W2 := by rw [hW2]; exact (Below.refl _ _).alloc (Nat.le_refl _) _
  have hgb : W2.heap[w1.heap.size]? = some (.cells #[.slice A n c, .slice B n d] 22 (0, 0)) := by rw [hW2]; exact heap_alloc_new _ _
  have hbw : Below w.heap.size w W2 := B1.out.trans (hbx.mono B1.out.size)
  have HCC2 : Hid (Calls Try.prog 12 #[.slice (some ⟨w1.heap.size, 0, none⟩) 2 2] (w1.alloc (.cells #[.slice A n c, .slice B n d] 22)) fun e w' => (∃ A' c', e = .returned (.slice A' (2 * n) c') ∧ SlA linE (· < w'.heap.size) w' A' c' (l ++ m)) ∧ Below w.heap.size w w') := by
    rw [← hW2]
    refine (aconcat_ok F G A B c d w1.heap.size l m W2 (HL.out W2 hbw) (fun k hk => Nat.lt_of_lt_of_le (HF.out k hk) hbw.size) (HM.out W2 hbw) (fun k hk => Nat.lt_of_lt_of_le (HG.out k hk) hbw.size) (by rw [← HN.out]; omega) (by rw [HN2.out]; omega) (block_lt hgb) (by rw [← HN.out]; exact (cell_of_row W2 _ 0 _ _ _ hgb).trans rfl) (by rw [HN2.out]; exact (cell_of_row W2 _ 1 _ _ _ hgb).trans rfl)).mono ?_
    rintro e w' ⟨⟨A', c', rfl, hs⟩, hb'⟩
    exact ⟨⟨A', c', by rw [HCL.out], hs.more fun k hk => hk.2⟩, hbw.trans (hb'.mono hbw.size)⟩
  clear hbx hgb hbw hW2
  go_wp2_with fail
  refine HCC2.out.mono ?_
  rintro e w3 ⟨⟨A3, c3, rfl, hs3⟩, b3⟩
  have HS3 := Lib.hid hs3
  have B3 := Lib.hid b3
  clear hs3 b3 HCC2 B1
  obtain ⟨cn, hcn⟩ : ∃ cn, cn = 2 * n := ⟨_, rfl⟩
  rw [← hcn] at HCL ⊢
  have HCN := Lib.hid hcn
  have hcn8 : cn ≤ 800 := by omega
  clear hcn
  go_wp2_with fail
  go_loopw [9, 25] (fun kv iv wr => ∃ (i : Nat) (Ak : Option Addr) (ck : Nat), i ≤ cn ∧ iv = .int .i64 i ∧ kv = .slice Ak i ck ∧ Hid (wr.ownsRow w3.heap.size 9 1 (.slice Ak i ck) i (V.take i)) ∧ Hid (Below w3.heap.size w3 wr)) (fun _ iv _ => cn - (intOf iv).toNat)
  case atStart => exact ⟨0, none, 0, Nat.zero_le _, rfl, rfl, World.ownsRow_nil _ _ _ _, Below.refl _ _⟩
  case round =>
    obtain ⟨i, Ak, ck, hi, rfl, rfl, HO, HBX⟩ := hrel
    by_cases hlt : i < cn
    · have hiL : i < (l ++ m).length := by rw [HCL.out]; exact hlt
      have hva := HVAT.out i hiL
      obtain ⟨b, off, A5, c5, rfl, hFb, x0, x1, _, hx⟩ := (HS3.out.keep fun k hk => HBX.out.block k hk).lin_ hiL
      have hzr := HBX.out.size
      have hbl : b < wr.heap.size := Nat.lt_of_lt_of_le hFb hzr
      have hcap := HS3.out.1
      rw [HCL.out] at hcap
      clear hx hFb
      generalize (l ++ m)[i] = x at x0 x1 hva
      obtain ⟨key, nums⟩ := x
      simp only at x0 x1 hva
      have HTK : Hid (V.take (i + 1) = V.take i ++ [.string key]) := by
        obtain ⟨hvl, hve⟩ := List.getElem?_eq_some_iff.1 hva
        show _ = _
        rw [List.take_succ_eq_append_getElem hvl, hve]
      generalize nums.length = nl at x1
      obtain ⟨W4, hW4⟩ : ∃ W4, W4 = wr.alloc (.cells #[.string key, .slice A5 nl c5] 29) := ⟨_, rfl⟩
      have hb4 : Below wr.heap.size wr W4 := by rw [hW4]; exact (Below.refl _ _).alloc (Nat.le_refl _) _
      have hxb : W4.heap[wr.heap.size]? = some (.cells #[.string key, .slice A5 nl c5] 29 (0, 0)) := by rw [hW4]; exact heap_alloc_new _ _
      have y0 : W4.cell? ⟨wr.heap.size, 0, none⟩ = some (.string key) := (cell_of_row W4 _ 0 _ _ _ hxb).trans rfl
      have HO4 := Lib.hid (own_keepJ HO.out hb4)
      have HB4 : Hid (Below w3.heap.size w3 W4) := HBX.out.trans (hb4.mono hzr)
      clear hb4 hxb hva HO HBX
      go_upto_region 8 with (fail)
      rw [← hW4]
      clear hW4 x0 x1
      generalize wr.heap.size = xb at y0 ⊢
      go_wp2_with (at_builtin; refine wpList_push (w0 := W4) rfl _ _ 44 rfl w3.heap.size 9 _ 1 16 Try.underlying44 info_strJ rfl (by decide) (.slice Ak i ck) i _ rfl HO4.out [.string key] (by simp [Act.eval]) rfl ?_ ?_ ?_ HB4.out.size HB4.out (Nat.le_refl _) ?_)
      · intro u hu; rw [List.mem_singleton.1 hu]; rfl
      · unfold maxLen; omega
      · omega
      · intro v9 w9 hown9 hg9 hb9 hat9
        obtain ⟨A9, c9, rfl, _, _⟩ := OwnS.of_row hown9
        have HO9 : Hid (w9.ownsRow w3.heap.size 9 1 (.slice A9 (i + 1) c9) (i + 1) (V.take (i + 1))) := by
          show World.ownsRow _ _ _ _ _ _ _
          rw [HTK.out]
          exact hown9
        have HB9 := Lib.hid hb9
        clear hown9 hg9 hb9 hat9
        go_wp2_with fail
        go_roundw
        case rel => exact ⟨i + 1, A9, c9, by omega, by go_num, rfl, HO9, HB9⟩
        case measure => simp [intOf]; omega
    · have hie : i = cn := by omega
      have hvl : V.take cn = (K ++ K).map encStr := by
        rw [List.take_of_length_le (by rw [HV.out, List.length_map, List.length_append, HKL.out, HCN.out]; omega), HV.out]
      subst hie
      rw [hvl] at HO
      obtain ⟨g, cap, cur, e1, hbase, hcell, h1, h2, h3, h4⟩ : ∃ g cap cur, Value.slice Ak i ck = .slice (some ⟨g, 0, none⟩) i cap ∧ w3.heap.size ≤ g ∧ wr.heap[g]? = some (.cells cur 9 (0, 0)) ∧ i ≤ cap ∧ cap ≤ maxLen ∧ cur.size = cap * 1 ∧ cur.toList.take (i * 1) = (K ++ K).map encStr := by
        rcases HO.out.2 with ⟨_, h0⟩ | h
        · have := HCN.out; omega
        · exact h
      injection e1 with e1 _ e2
      subst e1; subst e2
      have hss : (K ++ K).length = i := by rw [List.length_append, HKL.out, HCN.out]; omega
      have hgl : g < wr.heap.size := block_lt hcell
      have hS := AnyM.slices_Sort_string Try.sorts g 0 ck (K ++ K) wr (holds_of_block hcell (by rw [hss]; simpa using h4)) hgl (by rw [hss]; omega)
      rw [hss, sort_dup HKS.out] at hS
      change Calls Try.prog 15 _ _ _ at hS
      have HSO := Lib.hid hS
      have HDL : Hid ((dup K).length = i) := by show _ = _; rw [dup_len, HKL.out, HCN.out]
      have hown5 : ∀ (q : Nat) (os : Array Obj), (Go.Sort.grow (Go.Sort.putRow encStr (Go.Sort.ahead wr q) g 0 (dup K).toArray) os).heap[g]? = some (.cells (Go.Sort.putCells encStr 0 (dup K).toArray cur) 9 (0, 0)) := fun q os => heap_sorted _ hcell
      have htake : (Go.Sort.putCells encStr 0 (dup K).toArray cur).toList.take (dup K).length = (dup K).map encStr := take_putCells cur (dup K) (by rw [HDL.out]; omega)
      have HH5 : Hid (∀ (q : Nat) (os : Array Obj), Go.Sort.Holds encStr (Go.Sort.grow (Go.Sort.putRow encStr (Go.Sort.ahead wr q) g 0 (dup K).toArray) os) g 0 (dup K).toArray) := fun q os => holds_of_block (hown5 q os) htake
      have HG5 : Hid (∀ (q : Nat) (os : Array Obj), wr.grownBy (Go.Sort.grow (Go.Sort.putRow encStr (Go.Sort.ahead wr q) g 0 (dup K).toArray) os) (some g)) := fun q os => grownBy_sorted _
      have HBY : Hid (Below w.heap.size w wr) := B3.out.trans (HBX.out.mono B3.out.size)
      have HGB : Hid (w.heap.size ≤ g) := Nat.le_trans B3.out.size hbase
      clear hS hown5 htake hvl hcell h3 h4 HO hss HVAT HV
      go_wp2_with fail
      refine HSO.out.mono ?_
      rintro e w5 ⟨rfl, q5, os5, rfl⟩
      obtain ⟨w5, hw5⟩ : ∃ w5, w5 = Go.Sort.grow (Go.Sort.putRow encStr (Go.Sort.ahead wr q5) g 0 (dup K).toArray) os5 := ⟨_, rfl⟩
      have hh5 := HH5.out q5 os5
      have hg5 := HG5.out q5 os5
      rw [← hw5] at hh5 hg5 ⊢
      have HB5 : Hid (Below w.heap.size w w5) := HBY.out.grown hg5 HBY.out.size fun k e => by injection e with e; rw [← e]; exact HGB.out
      have hC := Any.slices_Compact_string Try.compact g 0 ck (dup K) w5 hh5 (by rw [HDL.out]; unfold maxLen at h2; omega) (by rw [HDL.out]; exact h1)
      rw [HDL.out, compact_dup HKS.out] at hC
      change Calls Try.prog 16 _ _ _ at hC
      rw [HKL.out] at hC
      have HCO := Lib.hid hC
      have HH6 := Lib.hid hh5
      clear hC hh5 hg5 hw5 HSO HH5 HG5
      go_wp2_with fail
      refine HCO.out.mono ?_
      rintro e w6 ⟨rfl, q6, rfl⟩
      obtain ⟨w6, hw6⟩ : ∃ w6, w6 = Go.Sort.putRow encStr (Go.Sort.ahead w5 q6) g 0 (K ++ List.replicate (i - n) []).toArray := ⟨_, rfl⟩
      rw [← hw6]
      have hg6 : w5.grownBy w6 (some g) := by
        have h := grownBy_sorted (w := w5) (g := g) (n := q6) (os := #[]) (K ++ List.replicate (i - n) []).toArray
        rw [Go.Sort.grow_empty, ← hw6] at h
        exact h
      have HB6 : Hid (Below w.heap.size w w6) := HB5.out.grown hg6 HB5.out.size fun k e => by injection e with e; rw [← e]; exact HGB.out
      have HKEY : Hid (∀ j (h : j < n), ∃ h' : j < l.length, w6.cell? ⟨g, j, none⟩ = some (.string l[j].key)) := fun j h => by
        have hjl : j < l.length := by rw [← HN.out]; exact h
        have hjk : j < K.length := by rw [HKL.out]; exact h
        have hsz : (K ++ List.replicate (i - n) []).toArray.size = (dup K).toArray.size := by
          have h1 := HDL.out
          have h2 := HKL.out
          have h3 := HCN.out
          simp only [List.size_toArray, List.length_append, List.length_replicate]
          omega
        have h5 := Go.Sort.cell?_putRow encStr (Go.Sort.ahead w5 q6) g 0 (dup K).toArray (K ++ List.replicate (i - n) []).toArray (Go.Sort.holds_ahead _ _ _ _ _ _ HH6.out) hsz j (by simp only [List.size_toArray, List.length_append]; omega)
        rw [← hw6, Nat.zero_add] at h5
        refine ⟨hjl, h5.trans ?_⟩
        have h6 : (K ++ List.replicate (i - n) []).toArray[j]! = bl l[j].key := by
          rw [getElem!_pos _ j (by simp only [List.size_toArray, List.length_append]; omega)]
          rw [List.getElem_toArray, List.getElem_append_left hjk]
          exact HKAT.out j hjl hjk
        rw [h6, enc_bl]
      have hgl6 : g < w6.heap.size := by
        have h7 := hg6.size
        have h8 : g < w5.heap.size := cell_lt (HH6.out 0 (by simp only [List.size_toArray]; have := HDL.out; have := HCN.out; omega)).1
        omega
      clear hg6 hw6 HB5 HH6 HCO hgl
      go_wp2_with fail
      go_loopw [40] (fun iv wx => ∃ j : Nat, j ≤ a ∧ iv = .int .i64 j ∧ Hid (Below w6.heap.size w6 wx)) (fun iv _ => n - (intOf iv).toNat)
      case atStart => exact ⟨0, Nat.zero_le _, rfl, Below.refl _ _⟩
      case round =>
        obtain ⟨j, hj, rfl, HBJ⟩ := hrel
        have hjn : j < n := by omega
        obtain ⟨hjl, hcj⟩ := HKEY.out j hjn
        have z0 := (HBJ.out.cell (p := ⟨g, j, none⟩) hgl6).trans hcj
        have hjm : j < m.length := by rw [HN2.out]; exact hjn
        have hbj : Below w.heap.size w wr := HB6.out.trans (HBJ.out.mono HB6.out.size)
        have HBW := Lib.hid hbj
        have hf1 := afind_ok F A c l wr (HL.out wr hbj) (fun k hk => Nat.lt_of_lt_of_le (HF.out k hk) hbj.size) HA.out hjl rfl
        have HF2 : Hid (∀ W, Below wr.heap.size wr W → Calls Try.prog 18 #[.slice B m.length d, .string l[j].key] W fun e w' => (∃ A2 c2, e = .returned (.slice A2 m[j].nums.length c2) ∧ SlA (intE .i64) (· < w'.heap.size) w' A2 c2 m[j].nums) ∧ Below W.heap.size W w') := fun W hW => by
          have h9 : Below w.heap.size w W := HBW.out.trans (hW.mono HBW.out.size)
          exact afind_ok G B d m W (HM.out W h9) (fun k hk => Nat.lt_of_lt_of_le (HG.out k hk) h9.size) HB.out hjm (HCUT.out.key j hjl hjm)
        have hn1 := (HA.out.nums _ (List.getElem_mem hjl)).1
        have HSAME : Hid (j < a → m[j].nums = l[j].nums) := HCUT.out.same j hjl hjm
        have HCT : Hid (j = a → m[j].nums = l[j].nums.take m[j].nums.length ∧ m[j].nums.length < l[j].nums.length ∧ kk = l[j].key ∧ nn = m[j].nums.length) := fun e => by
          subst e
          obtain ⟨k1, k2⟩ := HCUT.out.cut hjl hjm
          exact ⟨k1, k2, HKK.out hjl, HNN.out hjm⟩
        rw [← HN.out] at hf1
        rw [HN2.out] at HF2
        obtain ⟨wl, hwl⟩ : ∃ wl, wl = l[j].nums := ⟨_, rfl⟩
        obtain ⟨gl, hglx⟩ : ∃ gl, gl = m[j].nums := ⟨_, rfl⟩
        rw [← hwl] at hf1 hn1 HSAME HCT
        rw [← hglx] at HF2 HSAME HCT
        generalize l[j].key = key at z0 hf1 HF2 HCT
        have HFA := Lib.hid hf1
        clear hf1 hcj hbj hwl hglx hjl hjm
        go_wp2_with fail
        refine HFA.out.mono ?_
        rintro e w7 ⟨⟨A7, c7, rfl, s7⟩, b7⟩
        have HS7 := Lib.hid s7
        have HB7 := Lib.hid b7
        have HFB := Lib.hid (HF2.out w7 b7)
        clear s7 b7 HFA HF2
        go_wp2_with fail
        refine HFB.out.mono ?_
        rintro e w8 ⟨⟨A8, c8, rfl, s8⟩, b8⟩
        have HS8 := Lib.hid s8
        have HS9 : Hid (SlA (intE .i64) (· < w7.heap.size) w8 A7 c7 wl) := HS7.out.keep fun k hk => b8.block k hk
        have HB8 : Hid (Below wr.heap.size wr w8) := HB7.out.trans (b8.mono HB7.out.size)
        clear s8 b8 HFB HS7
        by_cases hja : j < a
        · have hsame := HSAME.out hja
          subst hsame
          have HLN := Lib.hid (aline_ok _ _ A7 A8 c7 c8 gl gl w8 HS9.out HS8.out (by omega) (Nat.le_refl _) (by rw [List.take_length]))
          clear HSAME HCT HS8 HS9
          go_wp2_with fail
          refine HLN.out.mono ?_
          rintro e w9 ⟨_, h2, b9⟩
          have h2' := h2 (by first | rfl | trivial)
          subst h2'
          have HB9 : Hid (Below w6.heap.size w6 w9) := HBJ.out.trans ((HB8.out.trans (b9.mono HB8.out.size)).mono HBJ.out.size)
          clear b9 HLN
          go_wp2_with fail
          go_roundw
          case rel => exact ⟨j + 1, by omega, by go_num, HB9⟩
          case measure => simp [intOf]; omega
        · have hje : j = a := by omega
          obtain ⟨k1, k2, k3, k4⟩ := HCT.out hje
          have HLN := Lib.hid (aline_ok _ _ A7 A8 c7 c8 wl gl w8 HS9.out HS8.out (by omega) (by omega) k1)
          have HK2 := Lib.hid k2
          have HK3 := Lib.hid k3
          have HK4 := Lib.hid k4
          clear HSAME HCT HS8 HS9 k1 k2 k3 k4 hje
          go_wp2_with fail
          refine HLN.out.mono ?_
          rintro e w9 ⟨h1, _, b9⟩
          have h1' := h1 HK2.out
          subst h1'
          have HB9 : Hid (Below w.heap.size w w9) := HBW.out.trans ((HB8.out.trans (b9.mono HB8.out.size)).mono HBW.out.size)
          clear b9 HLN
          go_wp2_with fail
          (try simp only [Exit.inBlock, Exit.then])
          refine bodyPost_ret (results_tmp4 rfl _ _ _) rfl ?_
          exact ⟨by rw [HK3.out, HK4.out]; rfl, HB9.out⟩
end Go.Proofs.Ythpgkcfkpglkdaa
