import Derived.Test.YtgefinddmggpnaaDoorPA
import Derived.Test.YtgefinddmggpnaaDoorMxSd
import Derived.Test.YtgefinddmggpnaaDoorMxSi
import Derived.Lib.DecodeN
import Derived.Test.YtgefinddmggpnaaDoorMxSe
namespace Go.Proofs.YtgefinddmggpnaaDoor
open Go.Mx
set_option linter.unusedVariables false
set_option linter.unusedSimpArgs false
set_option maxRecDepth 100000

/-- What the first byte of a text in UTF-8 says of the text. -/
def firstN : List Nat := List.replicate 128 240 ++ List.replicate 66 241 ++ List.replicate 30 2 ++ [19] ++ List.replicate 12 3 ++ [35] ++ List.replicate 2 3 ++ [52] ++ List.replicate 3 4 ++ [68] ++ List.replicate 11 241
def acceptN : List Nat := [128, 191, 160, 191, 128, 159, 144, 191, 128, 143] ++ List.replicate 22 0
def firstT : List Value := firstN.map fun n => .int .u8 (n : Nat)
def acceptT : List Value := acceptN.map fun n => .int .u8 (n : Nat)
/-- The heap holds the two tables. -/
def Tb (H : Hp) : Prop := H[0]? = some (.tab 0 firstT) ∧ H[1]? = some (.tab 1 acceptT)

theorem firstN_at : ∀ i : Nat, i < 256 → firstN[i]? = some 240 ∨ firstN[i]? = some 241 ∨ firstN[i]? = some 2 ∨ firstN[i]? = some 19 ∨ firstN[i]? = some 3 ∨ firstN[i]? = some 35 ∨ firstN[i]? = some 52 ∨ firstN[i]? = some 4 ∨ firstN[i]? = some 68 := by decide
theorem firstT_at (i : Nat) (h : i < 256) : ∃ x : Nat, (firstT.map AV.v)[i]? = some (.v (.int .u8 x)) ∧ (x = 240 ∨ x = 241 ∨ x = 2 ∨ x = 19 ∨ x = 3 ∨ x = 35 ∨ x = 52 ∨ x = 4 ∨ x = 68) := by
  have h1 := firstN_at i h
  simp only [firstT, List.getElem?_map]
  rcases h1 with e | e | e | e | e | e | e | e | e <;> rw [e] <;> exact ⟨_, rfl, by simp⟩

theorem indexStr_tx1 (c b : UInt8) (l : List UInt8) (k : IntKind) : indexStr (.v (.string (tx (c :: b :: l)))) (.v (.int k 1)) = some (u8A b) := indexStr_tx (c :: b :: l) k 1 (by simp)
theorem indexStr_tx2 (c b d : UInt8) (l : List UInt8) (k : IntKind) : indexStr (.v (.string (tx (c :: b :: d :: l)))) (.v (.int k 2)) = some (u8A d) := indexStr_tx (c :: b :: d :: l) k 2 (by simp)
theorem indexStr_tx3 (c b d e : UInt8) (l : List UInt8) (k : IntKind) : indexStr (.v (.string (tx (c :: b :: d :: e :: l)))) (.v (.int k 3)) = some (u8A e) := indexStr_tx (c :: b :: d :: e :: l) k 3 (by simp)

theorem slow_A (c  : UInt8) (l : List UInt8) (x sz ai lo hi : Nat) (hx : (firstT.map AV.v)[c.toNat]? = some (.v (.int .u8 x))) (h240 : ((240 : Int) ≤ (x : Int)) = False) (hs : shrI .u8 (x : Int) 4 = (ai : Int)) (hai : ((ai : Int) < 16) = True) (hsz : IntKind.i64.wrap (andI .u8 (x : Int) 7) = (sz : Int)) (htk : ((acceptT.map AV.v).drop (ai * 2)).take 2 = [.v (.int .u8 (lo : Nat)), .v (.int .u8 (hi : Nat))]) (hle : (ai * 2 + 2 ≤ acceptT.length) = True) (hlen : ((l.length : Int) + 1 < (sz : Int)) = True) : ∃ r n : Int, ∀ H, Tb H → Sp Tryd.prog 92 [.v (.string (tx (c :: l)))] (fun v H' => v = .tup [.v (.int .i32 r), .v (.int .i64 n)] ∧ H' = H) H := by
  have hc : ((c.toNat : Int) < 256) = True := eq_true (by have := UInt8.toNat_lt c; omega)
  have hc0 : ((0 : Int) ≤ (c.toNat : Int)) = True := eq_true (by omega)
  have ha0 : ((0 : Int) ≤ (ai : Int)) = True := eq_true (by omega)
  have hl : ((l.length : Int) + 1 < 1) = False := eq_false (by omega)
  apply Exists.intro; apply Exists.intro; intro H hT
  refine Sp.body [] ⟨[9], [], []⟩ [] mo Tryd.func92 rfl (Nat.le_of_ble_eq_true rfl) (by kernel_rfl) ?_
  simp [ev_skip, ev_seq, ev_cond2, ev_ret, ev_region2, evOps_nil, evOps_cons, opG_none, opA_move, opA_assign, opA_bin, opA_load, opA_index, opA_indexAddr, opA_len, opA_alloc, opA_store, opA_convert, putO_some, putH_lt, putU_none, condB_true, condB_false, binT_some, binA, avO_some, loadT, lenT_str, indexT, indexAddrT, allocT, storeT, convV, convT, io_shr, io_and, io_lss, io_geq, opS, opV, Go.Mx.look, fr0, argSlots, seqK, Fr.known, Fr.newBox, dropBp, retK, retA, resA, mapO, convInt, cellsA_agg, okPart_agg, partA, loadA, loadS, newK, storeS, orO_some, eqT_some, indexTabA, tabO, tk3, Tryd.underlying3, sz5, ag5, tk5, Tryd.underlying5, Tryd.underlying9, Tryd.underlying135, sz137, ag137, ze137, Tryd.underlying138, tx_size, u8A, splice, hl, hc, hc0, hT.1, hT.2, hx, indexStr_tx0, h240, hs, hai, ha0, hsz, htk, hle, hlen]
  exact ⟨rfl, rfl⟩

theorem slow_B1 (c b : UInt8) (l : List UInt8) (x sz ai lo hi : Nat) (hx : (firstT.map AV.v)[c.toNat]? = some (.v (.int .u8 x))) (h240 : ((240 : Int) ≤ (x : Int)) = False) (hs : shrI .u8 (x : Int) 4 = (ai : Int)) (hai : ((ai : Int) < 16) = True) (hsz : IntKind.i64.wrap (andI .u8 (x : Int) 7) = (sz : Int)) (htk : ((acceptT.map AV.v).drop (ai * 2)).take 2 = [.v (.int .u8 (lo : Nat)), .v (.int .u8 (hi : Nat))]) (hle : (ai * 2 + 2 ≤ acceptT.length) = True) (hlen : ((l.length : Int) + 1 + 1 < (sz : Int)) = False) (hb : ((b.toNat : Int) < (lo : Int)) = True) : ∃ r n : Int, ∀ H, Tb H → Sp Tryd.prog 92 [.v (.string (tx (c :: b :: l)))] (fun v H' => v = .tup [.v (.int .i32 r), .v (.int .i64 n)] ∧ H' = H) H := by
  have hc : ((c.toNat : Int) < 256) = True := eq_true (by have := UInt8.toNat_lt c; omega)
  have hc0 : ((0 : Int) ≤ (c.toNat : Int)) = True := eq_true (by omega)
  have ha0 : ((0 : Int) ≤ (ai : Int)) = True := eq_true (by omega)
  have hl : ((l.length : Int) + 1 + 1 < 1) = False := eq_false (by omega)
  apply Exists.intro; apply Exists.intro; intro H hT
  refine Sp.body [] ⟨[9], [], []⟩ [] mo Tryd.func92 rfl (Nat.le_of_ble_eq_true rfl) (by kernel_rfl) ?_
  simp [ev_skip, ev_seq, ev_cond2, ev_ret, ev_region2, evOps_nil, evOps_cons, opG_none, opG_some, opJ, opU_ff, isU_bool, opA_move, opA_assign, opA_pick, opA_bin, opA_load, opA_index, opA_indexAddr, opA_fieldAddr, opA_len, opA_alloc, opA_store, opA_convert, putO_some, putH_lt, putU_none, putV_lt, condB_true, condB_false, binT_some, binA, avO_some, pickT, loadT, lenT_str, fieldAddrT, indexT, indexAddrT, allocT, storeT, convV, convT, io_shr, io_and, io_lss, io_geq, opS, opV, Go.Mx.look, fr0, argSlots, seqK, Fr.known, Fr.newBox, dropBp, retK, retA, resA, mapO, convInt, cellsA_agg, okPart_agg, partA, loadA, loadS, plusS, newK, storeS, orO_some, eqT_some, indexTabA, tabO, tk3, Tryd.underlying3, sz5, ag5, tk5, Tryd.underlying5, Tryd.underlying9, Tryd.underlying135, sz137, ag137, ze137, Tryd.underlying137, Tryd.underlying138, tx_size, u8A, splice, hl, hc, hc0, hT.1, hT.2, hx, indexStr_tx0, indexStr_tx1, h240, hs, hai, ha0, hsz, htk, hle, hlen, hb]
  exact ⟨rfl, rfl⟩

theorem slow_B2 (c b : UInt8) (l : List UInt8) (x sz ai lo hi : Nat) (hx : (firstT.map AV.v)[c.toNat]? = some (.v (.int .u8 x))) (h240 : ((240 : Int) ≤ (x : Int)) = False) (hs : shrI .u8 (x : Int) 4 = (ai : Int)) (hai : ((ai : Int) < 16) = True) (hsz : IntKind.i64.wrap (andI .u8 (x : Int) 7) = (sz : Int)) (htk : ((acceptT.map AV.v).drop (ai * 2)).take 2 = [.v (.int .u8 (lo : Nat)), .v (.int .u8 (hi : Nat))]) (hle : (ai * 2 + 2 ≤ acceptT.length) = True) (hlen : ((l.length : Int) + 1 + 1 < (sz : Int)) = False) (hb : ((b.toNat : Int) < (lo : Int)) = False) (hb' : ((hi : Int) < (b.toNat : Int)) = True) : ∃ r n : Int, ∀ H, Tb H → Sp Tryd.prog 92 [.v (.string (tx (c :: b :: l)))] (fun v H' => v = .tup [.v (.int .i32 r), .v (.int .i64 n)] ∧ H' = H) H := by
  have hc : ((c.toNat : Int) < 256) = True := eq_true (by have := UInt8.toNat_lt c; omega)
  have hc0 : ((0 : Int) ≤ (c.toNat : Int)) = True := eq_true (by omega)
  have ha0 : ((0 : Int) ≤ (ai : Int)) = True := eq_true (by omega)
  have hl : ((l.length : Int) + 1 + 1 < 1) = False := eq_false (by omega)
  apply Exists.intro; apply Exists.intro; intro H hT
  refine Sp.body [] ⟨[9], [], []⟩ [] mo Tryd.func92 rfl (Nat.le_of_ble_eq_true rfl) (by kernel_rfl) ?_
  simp [ev_skip, ev_seq, ev_cond2, ev_ret, ev_region2, evOps_nil, evOps_cons, opG_none, opG_some, opJ, opU_ff, isU_bool, opK_eq, opA_move, opA_assign, opA_pick, opA_bin, opA_load, opA_index, opA_indexAddr, opA_fieldAddr, opA_len, opA_alloc, opA_store, opA_convert, putO_some, putH_lt, putU_none, condB_true, condB_false, binT_some, binA, avO_some, pickT, loadT, lenT_str, fieldAddrT, indexT, indexAddrT, allocT, storeT, convV, convT, io_shr, io_and, io_lss, io_geq, opS, opV, Go.Mx.look, fr0, argSlots, seqK, Fr.known, Fr.newBox, dropBp, retK, retA, resA, mapO, convInt, cellsA_agg, okPart_agg, partA, loadA, loadS, plusS, newK, storeS, orO_some, eqT_some, indexTabA, tabO, tk3, Tryd.underlying3, sz5, ag5, tk5, Tryd.underlying5, Tryd.underlying9, Tryd.underlying135, sz137, ag137, ze137, Tryd.underlying137, Tryd.underlying138, tx_size, u8A, splice, hl, hc, hc0, hT.1, hT.2, hx, indexStr_tx0, indexStr_tx1, h240, hs, hai, ha0, hsz, htk, hle, hlen, hb, hb']
  exact ⟨rfl, rfl⟩

theorem slow_C (c b : UInt8) (l : List UInt8) (x sz ai lo hi : Nat) (hx : (firstT.map AV.v)[c.toNat]? = some (.v (.int .u8 x))) (h240 : ((240 : Int) ≤ (x : Int)) = False) (hs : shrI .u8 (x : Int) 4 = (ai : Int)) (hai : ((ai : Int) < 16) = True) (hsz : IntKind.i64.wrap (andI .u8 (x : Int) 7) = (sz : Int)) (htk : ((acceptT.map AV.v).drop (ai * 2)).take 2 = [.v (.int .u8 (lo : Nat)), .v (.int .u8 (hi : Nat))]) (hle : (ai * 2 + 2 ≤ acceptT.length) = True) (hlen : ((l.length : Int) + 1 + 1 < (sz : Int)) = False) (hb : ((b.toNat : Int) < (lo : Int)) = False) (hb' : ((hi : Int) < (b.toNat : Int)) = False) (h2 : ((sz : Int) ≤ 2) = True) : ∃ r n : Int, ∀ H, Tb H → Sp Tryd.prog 92 [.v (.string (tx (c :: b :: l)))] (fun v H' => v = .tup [.v (.int .i32 r), .v (.int .i64 n)] ∧ H' = H) H := by
  have hc : ((c.toNat : Int) < 256) = True := eq_true (by have := UInt8.toNat_lt c; omega)
  have hc0 : ((0 : Int) ≤ (c.toNat : Int)) = True := eq_true (by omega)
  have ha0 : ((0 : Int) ≤ (ai : Int)) = True := eq_true (by omega)
  have hl : ((l.length : Int) + 1 + 1 < 1) = False := eq_false (by omega)
  apply Exists.intro; apply Exists.intro; intro H hT
  refine Sp.body [] ⟨[9], [], []⟩ [] mo Tryd.func92 rfl (Nat.le_of_ble_eq_true rfl) (by kernel_rfl) ?_
  simp [ev_skip, ev_seq, ev_cond2, ev_ret, ev_region2, evOps_nil, evOps_cons, opG_none, opG_some, opJ, opU_ff, isU_bool, opK_eq, opA_move, opA_assign, opA_pick, opA_bin, opA_load, opA_index, opA_indexAddr, opA_fieldAddr, opA_len, opA_alloc, opA_store, opA_convert, putO_some, putH_lt, putU_none, condB_true, condB_false, binT_some, binA, avO_some, pickT, loadT, lenT_str, fieldAddrT, indexT, indexAddrT, allocT, storeT, convV, convT, io_shl, io_shr, io_and, io_or, io_lss, io_leq, io_geq, opS, opV, Go.Mx.look, fr0, argSlots, seqK, Fr.known, Fr.newBox, dropBp, retK, retA, resA, mapO, convInt, cellsA_agg, okPart_agg, partA, loadA, loadS, plusS, newK, storeS, orO_some, eqT_some, indexTabA, tabO, tk3, Tryd.underlying3, sz5, ag5, tk5, Tryd.underlying5, Tryd.underlying9, tk21, Tryd.underlying21, Tryd.underlying135, sz137, ag137, ze137, Tryd.underlying137, Tryd.underlying138, tx_size, u8A, splice, hl, hc, hc0, hT.1, hT.2, hx, indexStr_tx0, indexStr_tx1, h240, hs, hai, ha0, hsz, htk, hle, hlen, hb, hb', h2]
  exact ⟨rfl, rfl⟩

theorem slow_D1 (c b d : UInt8) (l : List UInt8) (x sz ai lo hi : Nat) (hx : (firstT.map AV.v)[c.toNat]? = some (.v (.int .u8 x))) (h240 : ((240 : Int) ≤ (x : Int)) = False) (hs : shrI .u8 (x : Int) 4 = (ai : Int)) (hai : ((ai : Int) < 16) = True) (hsz : IntKind.i64.wrap (andI .u8 (x : Int) 7) = (sz : Int)) (htk : ((acceptT.map AV.v).drop (ai * 2)).take 2 = [.v (.int .u8 (lo : Nat)), .v (.int .u8 (hi : Nat))]) (hle : (ai * 2 + 2 ≤ acceptT.length) = True) (hlen : ((l.length : Int) + 1 + 1 + 1 < (sz : Int)) = False) (hb : ((b.toNat : Int) < (lo : Int)) = False) (hb' : ((hi : Int) < (b.toNat : Int)) = False) (h2 : ((sz : Int) ≤ 2) = False) (hd : ((d.toNat : Int) < 128) = True) : ∃ r n : Int, ∀ H, Tb H → Sp Tryd.prog 92 [.v (.string (tx (c :: b :: d :: l)))] (fun v H' => v = .tup [.v (.int .i32 r), .v (.int .i64 n)] ∧ H' = H) H := by
  have hc : ((c.toNat : Int) < 256) = True := eq_true (by have := UInt8.toNat_lt c; omega)
  have hc0 : ((0 : Int) ≤ (c.toNat : Int)) = True := eq_true (by omega)
  have ha0 : ((0 : Int) ≤ (ai : Int)) = True := eq_true (by omega)
  have hl : ((l.length : Int) + 1 + 1 + 1 < 1) = False := eq_false (by omega)
  apply Exists.intro; apply Exists.intro; intro H hT
  refine Sp.body [] ⟨[9], [], []⟩ [] mo Tryd.func92 rfl (Nat.le_of_ble_eq_true rfl) (by kernel_rfl) ?_
  simp [ev_skip, ev_seq, ev_cond2, ev_ret, ev_region2, evOps_nil, evOps_cons, opG_none, opG_some, opJ, opU_ff, isU_bool, opK_eq, opA_move, opA_assign, opA_pick, opA_bin, opA_load, opA_index, opA_indexAddr, opA_fieldAddr, opA_len, opA_alloc, opA_store, opA_convert, putO_some, putH_lt, putU_none, putV_lt, condB_true, condB_false, binT_some, binA, avO_some, pickT, loadT, lenT_str, fieldAddrT, indexT, indexAddrT, allocT, storeT, convV, convT, io_shr, io_and, io_lss, io_leq, io_geq, opS, opV, Go.Mx.look, fr0, argSlots, seqK, Fr.known, Fr.newBox, dropBp, retK, retA, resA, mapO, convInt, cellsA_agg, okPart_agg, partA, loadA, loadS, plusS, newK, storeS, orO_some, eqT_some, indexTabA, tabO, tk3, Tryd.underlying3, sz5, ag5, tk5, Tryd.underlying5, Tryd.underlying9, Tryd.underlying135, sz137, ag137, ze137, Tryd.underlying137, Tryd.underlying138, tx_size, u8A, splice, hl, hc, hc0, hT.1, hT.2, hx, indexStr_tx0, indexStr_tx1, indexStr_tx2, h240, hs, hai, ha0, hsz, htk, hle, hlen, hb, hb', h2, hd]
  exact ⟨rfl, rfl⟩

theorem slow_D2 (c b d : UInt8) (l : List UInt8) (x sz ai lo hi : Nat) (hx : (firstT.map AV.v)[c.toNat]? = some (.v (.int .u8 x))) (h240 : ((240 : Int) ≤ (x : Int)) = False) (hs : shrI .u8 (x : Int) 4 = (ai : Int)) (hai : ((ai : Int) < 16) = True) (hsz : IntKind.i64.wrap (andI .u8 (x : Int) 7) = (sz : Int)) (htk : ((acceptT.map AV.v).drop (ai * 2)).take 2 = [.v (.int .u8 (lo : Nat)), .v (.int .u8 (hi : Nat))]) (hle : (ai * 2 + 2 ≤ acceptT.length) = True) (hlen : ((l.length : Int) + 1 + 1 + 1 < (sz : Int)) = False) (hb : ((b.toNat : Int) < (lo : Int)) = False) (hb' : ((hi : Int) < (b.toNat : Int)) = False) (h2 : ((sz : Int) ≤ 2) = False) (hd : ((d.toNat : Int) < 128) = False) (hd' : ((191 : Int) < (d.toNat : Int)) = True) : ∃ r n : Int, ∀ H, Tb H → Sp Tryd.prog 92 [.v (.string (tx (c :: b :: d :: l)))] (fun v H' => v = .tup [.v (.int .i32 r), .v (.int .i64 n)] ∧ H' = H) H := by
  have hc : ((c.toNat : Int) < 256) = True := eq_true (by have := UInt8.toNat_lt c; omega)
  have hc0 : ((0 : Int) ≤ (c.toNat : Int)) = True := eq_true (by omega)
  have ha0 : ((0 : Int) ≤ (ai : Int)) = True := eq_true (by omega)
  have hl : ((l.length : Int) + 1 + 1 + 1 < 1) = False := eq_false (by omega)
  apply Exists.intro; apply Exists.intro; intro H hT
  refine Sp.body [] ⟨[9], [], []⟩ [] mo Tryd.func92 rfl (Nat.le_of_ble_eq_true rfl) (by kernel_rfl) ?_
  simp [ev_skip, ev_seq, ev_cond2, ev_ret, ev_region2, evOps_nil, evOps_cons, opG_none, opG_some, opJ, opU_ff, isU_bool, opK_eq, opA_move, opA_assign, opA_pick, opA_bin, opA_load, opA_index, opA_indexAddr, opA_fieldAddr, opA_len, opA_alloc, opA_store, opA_convert, putO_some, putH_lt, putU_none, condB_true, condB_false, binT_some, binA, avO_some, pickT, loadT, lenT_str, fieldAddrT, indexT, indexAddrT, allocT, storeT, convV, convT, io_shr, io_and, io_lss, io_leq, io_geq, opS, opV, Go.Mx.look, fr0, argSlots, seqK, Fr.known, Fr.newBox, dropBp, retK, retA, resA, mapO, convInt, cellsA_agg, okPart_agg, partA, loadA, loadS, plusS, newK, storeS, orO_some, eqT_some, indexTabA, tabO, tk3, Tryd.underlying3, sz5, ag5, tk5, Tryd.underlying5, Tryd.underlying9, Tryd.underlying135, sz137, ag137, ze137, Tryd.underlying137, Tryd.underlying138, tx_size, u8A, splice, hl, hc, hc0, hT.1, hT.2, hx, indexStr_tx0, indexStr_tx1, indexStr_tx2, h240, hs, hai, ha0, hsz, htk, hle, hlen, hb, hb', h2, hd, hd']
  exact ⟨rfl, rfl⟩

theorem slow_E (c b d : UInt8) (l : List UInt8) (x sz ai lo hi : Nat) (hx : (firstT.map AV.v)[c.toNat]? = some (.v (.int .u8 x))) (h240 : ((240 : Int) ≤ (x : Int)) = False) (hs : shrI .u8 (x : Int) 4 = (ai : Int)) (hai : ((ai : Int) < 16) = True) (hsz : IntKind.i64.wrap (andI .u8 (x : Int) 7) = (sz : Int)) (htk : ((acceptT.map AV.v).drop (ai * 2)).take 2 = [.v (.int .u8 (lo : Nat)), .v (.int .u8 (hi : Nat))]) (hle : (ai * 2 + 2 ≤ acceptT.length) = True) (hlen : ((l.length : Int) + 1 + 1 + 1 < (sz : Int)) = False) (hb : ((b.toNat : Int) < (lo : Int)) = False) (hb' : ((hi : Int) < (b.toNat : Int)) = False) (h2 : ((sz : Int) ≤ 2) = False) (hd : ((d.toNat : Int) < 128) = False) (hd' : ((191 : Int) < (d.toNat : Int)) = False) (h3 : ((sz : Int) ≤ 3) = True) : ∃ r n : Int, ∀ H, Tb H → Sp Tryd.prog 92 [.v (.string (tx (c :: b :: d :: l)))] (fun v H' => v = .tup [.v (.int .i32 r), .v (.int .i64 n)] ∧ H' = H) H := by
  have hc : ((c.toNat : Int) < 256) = True := eq_true (by have := UInt8.toNat_lt c; omega)
  have hc0 : ((0 : Int) ≤ (c.toNat : Int)) = True := eq_true (by omega)
  have ha0 : ((0 : Int) ≤ (ai : Int)) = True := eq_true (by omega)
  have hl : ((l.length : Int) + 1 + 1 + 1 < 1) = False := eq_false (by omega)
  apply Exists.intro; apply Exists.intro; intro H hT
  refine Sp.body [] ⟨[9], [], []⟩ [] mo Tryd.func92 rfl (Nat.le_of_ble_eq_true rfl) (by kernel_rfl) ?_
  simp [ev_skip, ev_seq, ev_cond2, ev_ret, ev_region2, evOps_nil, evOps_cons, opG_none, opG_some, opJ, opU_ff, isU_bool, opK_eq, opA_move, opA_assign, opA_pick, opA_bin, opA_load, opA_index, opA_indexAddr, opA_fieldAddr, opA_len, opA_alloc, opA_store, opA_convert, putO_some, putH_lt, putU_none, condB_true, condB_false, binT_some, binA, avO_some, pickT, loadT, lenT_str, fieldAddrT, indexT, indexAddrT, allocT, storeT, convV, convT, io_shl, io_shr, io_and, io_or, io_lss, io_leq, io_geq, opS, opV, Go.Mx.look, fr0, argSlots, seqK, Fr.known, Fr.newBox, dropBp, retK, retA, resA, mapO, convInt, cellsA_agg, okPart_agg, partA, loadA, loadS, plusS, newK, storeS, orO_some, eqT_some, indexTabA, tabO, tk3, Tryd.underlying3, sz5, ag5, tk5, Tryd.underlying5, Tryd.underlying9, tk21, Tryd.underlying21, Tryd.underlying135, sz137, ag137, ze137, Tryd.underlying137, Tryd.underlying138, tx_size, u8A, splice, hl, hc, hc0, hT.1, hT.2, hx, indexStr_tx0, indexStr_tx1, indexStr_tx2, h240, hs, hai, ha0, hsz, htk, hle, hlen, hb, hb', h2, hd, hd', h3]
  exact ⟨rfl, rfl⟩

theorem slow_F1 (c b d e : UInt8) (l : List UInt8) (x sz ai lo hi : Nat) (hx : (firstT.map AV.v)[c.toNat]? = some (.v (.int .u8 x))) (h240 : ((240 : Int) ≤ (x : Int)) = False) (hs : shrI .u8 (x : Int) 4 = (ai : Int)) (hai : ((ai : Int) < 16) = True) (hsz : IntKind.i64.wrap (andI .u8 (x : Int) 7) = (sz : Int)) (htk : ((acceptT.map AV.v).drop (ai * 2)).take 2 = [.v (.int .u8 (lo : Nat)), .v (.int .u8 (hi : Nat))]) (hle : (ai * 2 + 2 ≤ acceptT.length) = True) (hlen : ((l.length : Int) + 1 + 1 + 1 + 1 < (sz : Int)) = False) (hb : ((b.toNat : Int) < (lo : Int)) = False) (hb' : ((hi : Int) < (b.toNat : Int)) = False) (h2 : ((sz : Int) ≤ 2) = False) (hd : ((d.toNat : Int) < 128) = False) (hd' : ((191 : Int) < (d.toNat : Int)) = False) (h3 : ((sz : Int) ≤ 3) = False) (he : ((e.toNat : Int) < 128) = True) : ∃ r n : Int, ∀ H, Tb H → Sp Tryd.prog 92 [.v (.string (tx (c :: b :: d :: e :: l)))] (fun v H' => v = .tup [.v (.int .i32 r), .v (.int .i64 n)] ∧ H' = H) H := by
  have hc : ((c.toNat : Int) < 256) = True := eq_true (by have := UInt8.toNat_lt c; omega)
  have hc0 : ((0 : Int) ≤ (c.toNat : Int)) = True := eq_true (by omega)
  have ha0 : ((0 : Int) ≤ (ai : Int)) = True := eq_true (by omega)
  have hl : ((l.length : Int) + 1 + 1 + 1 + 1 < 1) = False := eq_false (by omega)
  apply Exists.intro; apply Exists.intro; intro H hT
  refine Sp.body [] ⟨[9], [], []⟩ [] mo Tryd.func92 rfl (Nat.le_of_ble_eq_true rfl) (by kernel_rfl) ?_
  simp [ev_skip, ev_seq, ev_cond2, ev_ret, ev_region2, evOps_nil, evOps_cons, opG_none, opG_some, opJ, opU_ff, isU_bool, opK_eq, opA_move, opA_assign, opA_pick, opA_bin, opA_load, opA_index, opA_indexAddr, opA_fieldAddr, opA_len, opA_alloc, opA_store, opA_convert, putO_some, putH_lt, putU_none, putV_lt, condB_true, condB_false, binT_some, binA, avO_some, pickT, loadT, lenT_str, fieldAddrT, indexT, indexAddrT, allocT, storeT, convV, convT, io_shr, io_and, io_lss, io_leq, io_geq, opS, opV, Go.Mx.look, fr0, argSlots, seqK, Fr.known, Fr.newBox, dropBp, retK, retA, resA, mapO, convInt, cellsA_agg, okPart_agg, partA, loadA, loadS, plusS, newK, storeS, orO_some, eqT_some, indexTabA, tabO, tk3, Tryd.underlying3, sz5, ag5, tk5, Tryd.underlying5, Tryd.underlying9, Tryd.underlying135, sz137, ag137, ze137, Tryd.underlying137, Tryd.underlying138, tx_size, u8A, splice, hl, hc, hc0, hT.1, hT.2, hx, indexStr_tx0, indexStr_tx1, indexStr_tx2, indexStr_tx3, h240, hs, hai, ha0, hsz, htk, hle, hlen, hb, hb', h2, hd, hd', h3, he]
  exact ⟨rfl, rfl⟩

theorem slow_F2 (c b d e : UInt8) (l : List UInt8) (x sz ai lo hi : Nat) (hx : (firstT.map AV.v)[c.toNat]? = some (.v (.int .u8 x))) (h240 : ((240 : Int) ≤ (x : Int)) = False) (hs : shrI .u8 (x : Int) 4 = (ai : Int)) (hai : ((ai : Int) < 16) = True) (hsz : IntKind.i64.wrap (andI .u8 (x : Int) 7) = (sz : Int)) (htk : ((acceptT.map AV.v).drop (ai * 2)).take 2 = [.v (.int .u8 (lo : Nat)), .v (.int .u8 (hi : Nat))]) (hle : (ai * 2 + 2 ≤ acceptT.length) = True) (hlen : ((l.length : Int) + 1 + 1 + 1 + 1 < (sz : Int)) = False) (hb : ((b.toNat : Int) < (lo : Int)) = False) (hb' : ((hi : Int) < (b.toNat : Int)) = False) (h2 : ((sz : Int) ≤ 2) = False) (hd : ((d.toNat : Int) < 128) = False) (hd' : ((191 : Int) < (d.toNat : Int)) = False) (h3 : ((sz : Int) ≤ 3) = False) (he : ((e.toNat : Int) < 128) = False) (he' : ((191 : Int) < (e.toNat : Int)) = True) : ∃ r n : Int, ∀ H, Tb H → Sp Tryd.prog 92 [.v (.string (tx (c :: b :: d :: e :: l)))] (fun v H' => v = .tup [.v (.int .i32 r), .v (.int .i64 n)] ∧ H' = H) H := by
  have hc : ((c.toNat : Int) < 256) = True := eq_true (by have := UInt8.toNat_lt c; omega)
  have hc0 : ((0 : Int) ≤ (c.toNat : Int)) = True := eq_true (by omega)
  have ha0 : ((0 : Int) ≤ (ai : Int)) = True := eq_true (by omega)
  have hl : ((l.length : Int) + 1 + 1 + 1 + 1 < 1) = False := eq_false (by omega)
  apply Exists.intro; apply Exists.intro; intro H hT
  refine Sp.body [] ⟨[9], [], []⟩ [] mo Tryd.func92 rfl (Nat.le_of_ble_eq_true rfl) (by kernel_rfl) ?_
  simp [ev_skip, ev_seq, ev_cond2, ev_ret, ev_region2, evOps_nil, evOps_cons, opG_none, opG_some, opJ, opU_ff, isU_bool, opK_eq, opA_move, opA_assign, opA_pick, opA_bin, opA_load, opA_index, opA_indexAddr, opA_fieldAddr, opA_len, opA_alloc, opA_store, opA_convert, putO_some, putH_lt, putU_none, condB_true, condB_false, binT_some, binA, avO_some, pickT, loadT, lenT_str, fieldAddrT, indexT, indexAddrT, allocT, storeT, convV, convT, io_shr, io_and, io_lss, io_leq, io_geq, opS, opV, Go.Mx.look, fr0, argSlots, seqK, Fr.known, Fr.newBox, dropBp, retK, retA, resA, mapO, convInt, cellsA_agg, okPart_agg, partA, loadA, loadS, plusS, newK, storeS, orO_some, eqT_some, indexTabA, tabO, tk3, Tryd.underlying3, sz5, ag5, tk5, Tryd.underlying5, Tryd.underlying9, Tryd.underlying135, sz137, ag137, ze137, Tryd.underlying137, Tryd.underlying138, tx_size, u8A, splice, hl, hc, hc0, hT.1, hT.2, hx, indexStr_tx0, indexStr_tx1, indexStr_tx2, indexStr_tx3, h240, hs, hai, ha0, hsz, htk, hle, hlen, hb, hb', h2, hd, hd', h3, he, he']
  exact ⟨rfl, rfl⟩

theorem slow_G (c b d e : UInt8) (l : List UInt8) (x sz ai lo hi : Nat) (hx : (firstT.map AV.v)[c.toNat]? = some (.v (.int .u8 x))) (h240 : ((240 : Int) ≤ (x : Int)) = False) (hs : shrI .u8 (x : Int) 4 = (ai : Int)) (hai : ((ai : Int) < 16) = True) (hsz : IntKind.i64.wrap (andI .u8 (x : Int) 7) = (sz : Int)) (htk : ((acceptT.map AV.v).drop (ai * 2)).take 2 = [.v (.int .u8 (lo : Nat)), .v (.int .u8 (hi : Nat))]) (hle : (ai * 2 + 2 ≤ acceptT.length) = True) (hlen : ((l.length : Int) + 1 + 1 + 1 + 1 < (sz : Int)) = False) (hb : ((b.toNat : Int) < (lo : Int)) = False) (hb' : ((hi : Int) < (b.toNat : Int)) = False) (h2 : ((sz : Int) ≤ 2) = False) (hd : ((d.toNat : Int) < 128) = False) (hd' : ((191 : Int) < (d.toNat : Int)) = False) (h3 : ((sz : Int) ≤ 3) = False) (he : ((e.toNat : Int) < 128) = False) (he' : ((191 : Int) < (e.toNat : Int)) = False) : ∃ r n : Int, ∀ H, Tb H → Sp Tryd.prog 92 [.v (.string (tx (c :: b :: d :: e :: l)))] (fun v H' => v = .tup [.v (.int .i32 r), .v (.int .i64 n)] ∧ H' = H) H := by
  have hc : ((c.toNat : Int) < 256) = True := eq_true (by have := UInt8.toNat_lt c; omega)
  have hc0 : ((0 : Int) ≤ (c.toNat : Int)) = True := eq_true (by omega)
  have ha0 : ((0 : Int) ≤ (ai : Int)) = True := eq_true (by omega)
  have hl : ((l.length : Int) + 1 + 1 + 1 + 1 < 1) = False := eq_false (by omega)
  apply Exists.intro; apply Exists.intro; intro H hT
  refine Sp.body [] ⟨[9], [], []⟩ [] mo Tryd.func92 rfl (Nat.le_of_ble_eq_true rfl) (by kernel_rfl) ?_
  simp [ev_skip, ev_seq, ev_cond2, ev_ret, ev_region2, evOps_nil, evOps_cons, opG_none, opG_some, opJ, opU_ff, isU_bool, opK_eq, opA_move, opA_assign, opA_pick, opA_bin, opA_load, opA_index, opA_indexAddr, opA_fieldAddr, opA_len, opA_alloc, opA_store, opA_convert, putO_some, putH_lt, putU_none, condB_false, binT_some, binA, avO_some, pickT, loadT, lenT_str, fieldAddrT, indexT, indexAddrT, allocT, storeT, convV, convT, io_shl, io_shr, io_and, io_or, io_lss, io_leq, io_geq, opS, opV, Go.Mx.look, fr0, argSlots, seqK, Fr.known, Fr.newBox, dropBp, retK, retA, resA, mapO, convInt, cellsA_agg, okPart_agg, partA, loadA, loadS, plusS, newK, storeS, orO_some, eqT_some, indexTabA, tabO, tk3, Tryd.underlying3, sz5, ag5, tk5, Tryd.underlying5, Tryd.underlying9, tk21, Tryd.underlying21, Tryd.underlying135, sz137, ag137, ze137, Tryd.underlying137, Tryd.underlying138, tx_size, u8A, splice, hl, hc, hc0, hT.1, hT.2, hx, indexStr_tx0, indexStr_tx1, indexStr_tx2, indexStr_tx3, h240, hs, hai, ha0, hsz, htk, hle, hlen, hb, hb', h2, hd, hd', h3, he, he']
  exact ⟨rfl, rfl⟩

theorem slow_x (c : UInt8) (l : List UInt8) (x sz ai lo hi : Nat) (hx : (firstT.map AV.v)[c.toNat]? = some (.v (.int .u8 x))) (h240 : ((240 : Int) ≤ (x : Int)) = False) (hs : shrI .u8 (x : Int) 4 = (ai : Int)) (hai : ((ai : Int) < 16) = True) (hsz : IntKind.i64.wrap (andI .u8 (x : Int) 7) = (sz : Int)) (htk : ((acceptT.map AV.v).drop (ai * 2)).take 2 = [.v (.int .u8 (lo : Nat)), .v (.int .u8 (hi : Nat))]) (hle : (ai * 2 + 2 ≤ acceptT.length) = True) (hz : sz = 2 ∨ sz = 3 ∨ sz = 4) : ∃ r n : Int, ∀ H, Tb H → Sp Tryd.prog 92 [.v (.string (tx (c :: l)))] (fun v H' => v = .tup [.v (.int .i32 r), .v (.int .i64 n)] ∧ H' = H) H := by
  by_cases hlen : (l.length : Int) + 1 < (sz : Int)
  · exact slow_A c l x sz ai lo hi hx h240 hs hai hsz htk hle (eq_true hlen)
  cases l with
  | nil => simp at hlen; omega
  | cons b l =>
  have hn2 : (((l.length : Nat) : Int) + 1 + 1 < (sz : Int)) = False := eq_false (by simp at hlen; omega)
  by_cases hb : (b.toNat : Int) < (lo : Int)
  · exact slow_B1 c b l x sz ai lo hi hx h240 hs hai hsz htk hle hn2 (eq_true hb)
  by_cases hb' : (hi : Int) < (b.toNat : Int)
  · exact slow_B2 c b l x sz ai lo hi hx h240 hs hai hsz htk hle hn2 (eq_false hb) (eq_true hb')
  by_cases h2 : (sz : Int) ≤ 2
  · exact slow_C c b l x sz ai lo hi hx h240 hs hai hsz htk hle hn2 (eq_false hb) (eq_false hb') (eq_true h2)
  cases l with
  | nil => simp at hlen; omega
  | cons d l =>
  have hn3 : (((l.length : Nat) : Int) + 1 + 1 + 1 < (sz : Int)) = False := eq_false (by simp at hlen; omega)
  by_cases hd : (d.toNat : Int) < 128
  · exact slow_D1 c b d l x sz ai lo hi hx h240 hs hai hsz htk hle hn3 (eq_false hb) (eq_false hb') (eq_false h2) (eq_true hd)
  by_cases hd' : (191 : Int) < (d.toNat : Int)
  · exact slow_D2 c b d l x sz ai lo hi hx h240 hs hai hsz htk hle hn3 (eq_false hb) (eq_false hb') (eq_false h2) (eq_false hd) (eq_true hd')
  by_cases h3 : (sz : Int) ≤ 3
  · exact slow_E c b d l x sz ai lo hi hx h240 hs hai hsz htk hle hn3 (eq_false hb) (eq_false hb') (eq_false h2) (eq_false hd) (eq_false hd') (eq_true h3)
  cases l with
  | nil => simp at hlen; omega
  | cons e l =>
  have hn4 : (((l.length : Nat) : Int) + 1 + 1 + 1 + 1 < (sz : Int)) = False := eq_false (by simp at hlen; omega)
  by_cases he : (e.toNat : Int) < 128
  · exact slow_F1 c b d e l x sz ai lo hi hx h240 hs hai hsz htk hle hn4 (eq_false hb) (eq_false hb') (eq_false h2) (eq_false hd) (eq_false hd') (eq_false h3) (eq_true he)
  by_cases he' : (191 : Int) < (e.toNat : Int)
  · exact slow_F2 c b d e l x sz ai lo hi hx h240 hs hai hsz htk hle hn4 (eq_false hb) (eq_false hb') (eq_false h2) (eq_false hd) (eq_false hd') (eq_false h3) (eq_false he) (eq_true he')
  exact slow_G c b d e l x sz ai lo hi hx h240 hs hai hsz htk hle hn4 (eq_false hb) (eq_false hb') (eq_false h2) (eq_false hd) (eq_false hd') (eq_false h3) (eq_false he) (eq_false he')

theorem slow_sp (l : List UInt8) : ∃ r n : Int, ∀ H, Tb H → Sp Tryd.prog 92 [.v (.string (tx l))] (fun v H' => v = .tup [.v (.int .i32 r), .v (.int .i64 n)] ∧ H' = H) H := by
  cases l with
  | nil =>
    refine ⟨65533, 0, fun H hT => ?_⟩
    refine Sp.body [] ⟨[9], [], []⟩ [] mo Tryd.func92 rfl (Nat.le_of_ble_eq_true rfl) (by kernel_rfl) ?_
    simp [ev_seq, ev_cond2, ev_ret, ev_region2, evOps_nil, evOps_cons, opG_none, opA_move, opA_assign, opA_bin, opA_len, putO_some, putH_lt, condB_true, binT_some, binA, avO_some, lenT_str, io_lss, opS, opV, Go.Mx.look, fr0, argSlots, seqK, Fr.known, retK, retA, resA, mapO, orO_some, eqT_some, tk3, Tryd.underlying9, tx_size]
  | cons c l =>
    obtain ⟨x, hx, hxs⟩ := firstT_at c.toNat (UInt8.toNat_lt c)
    have hc : ((c.toNat : Int) < 256) = True := eq_true (by have := UInt8.toNat_lt c; omega)
    have hc0 : ((0 : Int) ≤ (c.toNat : Int)) = True := eq_true (by omega)
    have hl : ((l.length : Int) + 1 < 1) = False := eq_false (by omega)
    rcases hxs with rfl | rfl | rfl | rfl | rfl | rfl | rfl | rfl | rfl
    · apply Exists.intro; apply Exists.intro; intro H hT
      refine Sp.body [] ⟨[9], [], []⟩ [] mo Tryd.func92 rfl (Nat.le_of_ble_eq_true rfl) (by kernel_rfl) ?_
      simp [ev_skip, ev_seq, ev_cond2, ev_ret, ev_region2, evOps_nil, evOps_cons, opG_none, opA_move, opA_assign, opA_bin, opA_load, opA_index, opA_indexAddr, opA_len, opA_convert, putO_some, putH_lt, condB_true, condB_false, binT_some, binA, avO_some, loadT, lenT_str, indexT, indexAddrT, convV, convT, io_shl, io_shr, io_and, io_or, io_lss, io_geq, opS, opV, Go.Mx.look, fr0, argSlots, seqK, Fr.known, retK, retA, resA, mapO, convInt, partA, loadA, loadS, orO_some, eqT_some, indexTabA, tabO, io_andNot, tk3, sz5, ag5, tk5, Tryd.underlying5, Tryd.underlying9, tk21, Tryd.underlying21, Tryd.underlying135, tx_size, u8A, hl, hc, hc0, hT.1, hx, indexStr_tx0]
      exact ⟨rfl, rfl⟩
    · apply Exists.intro; apply Exists.intro; intro H hT
      refine Sp.body [] ⟨[9], [], []⟩ [] mo Tryd.func92 rfl (Nat.le_of_ble_eq_true rfl) (by kernel_rfl) ?_
      simp [ev_skip, ev_seq, ev_cond2, ev_ret, ev_region2, evOps_nil, evOps_cons, opG_none, opA_move, opA_assign, opA_bin, opA_load, opA_index, opA_indexAddr, opA_len, opA_convert, putO_some, putH_lt, condB_true, condB_false, binT_some, binA, avO_some, loadT, lenT_str, indexT, indexAddrT, convV, convT, io_shl, io_shr, io_and, io_or, io_lss, io_geq, opS, opV, Go.Mx.look, fr0, argSlots, seqK, Fr.known, retK, retA, resA, mapO, convInt, partA, loadA, loadS, orO_some, eqT_some, indexTabA, tabO, io_andNot, tk3, sz5, ag5, tk5, Tryd.underlying5, Tryd.underlying9, tk21, Tryd.underlying21, Tryd.underlying135, tx_size, u8A, hl, hc, hc0, hT.1, hx, indexStr_tx0]
      exact ⟨rfl, rfl⟩
    · exact slow_x c l 2 2 0 128 191 hx (by decide) (by decide) (by decide) (by decide) rfl (by decide) (by decide)
    · exact slow_x c l 19 3 1 160 191 hx (by decide) (by decide) (by decide) (by decide) rfl (by decide) (by decide)
    · exact slow_x c l 3 3 0 128 191 hx (by decide) (by decide) (by decide) (by decide) rfl (by decide) (by decide)
    · exact slow_x c l 35 3 2 128 159 hx (by decide) (by decide) (by decide) (by decide) rfl (by decide) (by decide)
    · exact slow_x c l 52 4 3 144 191 hx (by decide) (by decide) (by decide) (by decide) rfl (by decide) (by decide)
    · exact slow_x c l 4 4 0 128 191 hx (by decide) (by decide) (by decide) (by decide) rfl (by decide) (by decide)
    · exact slow_x c l 68 4 4 128 143 hx (by decide) (by decide) (by decide) (by decide) rfl (by decide) (by decide)

/-- utf8.DecodeRuneInString: one answer for each text. -/
theorem decode_sp (l : List UInt8) : ∃ r n : Int, ∀ H, Tb H → Sp Tryd.prog 79 [.v (.string (tx l))] (fun v H' => v = .tup [.v (.int .i32 r), .v (.int .i64 n)] ∧ H' = H) H := by
  obtain ⟨r, n, hr⟩ := slow_sp l
  cases l with
  | nil =>
    refine ⟨r, n, fun H hT => ?_⟩
    refine Sp.body [] ⟨[], [], []⟩ [] mo Tryd.func79 rfl (Nat.le_of_ble_eq_true rfl) (by kernel_rfl) ?_
    simp [ev_seq, ev_cond2, ev_region2, evOps_nil, evOps_cons, opG_none, opG_some, opJ, opU_ft, isU_bool, opA_move, opA_assign, opA_pick, opA_bin, opA_call, putO_some, putH_lt, putV_lt, condB_false, binT_some, binA, avO_some, pickT, strOp, opS, opV, Go.Mx.look, fr0, argSlots, seqK, Fr.known, mapO, callA, orO_some, eqT_some, tk9, ok92, mk_tx, tx_list]
    refine (hr H hT).mono ?_
    rintro v H' ⟨rfl, rfl⟩
    simp [ev_ret, evOps_nil, evOps_cons, opG_none, opA_move, opA_assign, opA_extract, putO_some, putH_lt, putC_lt, extractT, opS, opV, Go.Mx.look, seqK, retK, retA, resA, mapO, extractA]
  | cons c l =>
    by_cases h : (c.toNat : Int) < 128
    · apply Exists.intro; apply Exists.intro; intro H hT
      refine Sp.body [] ⟨[], [], []⟩ [] mo Tryd.func79 rfl (Nat.le_of_ble_eq_true rfl) (by kernel_rfl) ?_
      simp [ev_seq, ev_cond2, ev_ret, ev_region2, evOps_nil, evOps_cons, opG_none, opG_some, opJ, opU_ft, isU_bool, opK_eq, opA_move, opA_assign, opA_pick, opA_bin, opA_index, opA_convert, putO_some, putH_lt, condB_true, binT_some, binA, avO_some, pickT, indexT, convV, convT, io_lss, strOp, opS, opV, Go.Mx.look, fr0, argSlots, seqK, Fr.known, retK, retA, resA, mapO, convInt, orO_some, eqT_some, tk5, Tryd.underlying5, tk9, Tryd.underlying9, Tryd.underlying21, mk_tx, tx_list, u8A, indexStr_tx0, h]
      exact ⟨rfl, rfl⟩
    · refine ⟨r, n, fun H hT => ?_⟩
      refine Sp.body [] ⟨[], [], []⟩ [] mo Tryd.func79 rfl (Nat.le_of_ble_eq_true rfl) (by kernel_rfl) ?_
      simp [ev_seq, ev_cond2, ev_region2, evOps_nil, evOps_cons, opG_none, opG_some, opJ, opU_ft, isU_bool, opK_eq, opA_move, opA_assign, opA_pick, opA_bin, opA_index, opA_call, putO_some, putH_lt, condB_true, condB_false, binT_some, binA, avO_some, pickT, indexT, io_lss, strOp, opS, opV, Go.Mx.look, fr0, argSlots, seqK, Fr.known, mapO, callA, orO_some, eqT_some, tk5, tk9, Tryd.underlying9, ok92, mk_tx, tx_list, u8A, indexStr_tx0, h]
      refine (hr H hT).mono ?_
      rintro v H' ⟨rfl, rfl⟩
      simp [ev_ret, evOps_nil, evOps_cons, opG_none, opA_move, opA_assign, opA_extract, putO_some, putH_lt, putC_lt, extractT, opS, opV, Go.Mx.look, seqK, retK, retA, resA, mapO, extractA]
end Go.Proofs.YtgefinddmggpnaaDoor

namespace Go.Proofs.YtgefinddmggpnaaDoor
open Go.Mx
set_option linter.unusedVariables false
set_option linter.unusedSimpArgs false
set_option maxRecDepth 100000

theorem Tb.same {H H' : Hp} (h : Tb H) (hs : Same [] H H') : Tb H' := ⟨hs.2 _ _ h.1 (by simp), hs.2 _ _ h.2 (by simp)⟩
/-! ### The letters of a text -/
theorem decode_ge (s : ByteArray) (pos : Nat) : 1 ≤ (Utf8.decode s pos).2 := by
  rw [Go.Lib.decode_at]; unfold Go.Lib.decodeN
  repeat' split
  all_goals (simp only; omega)
theorem decode_le (s : ByteArray) (pos : Nat) (h : pos < s.size) : pos + (Utf8.decode s pos).2 ≤ s.size := by
  rw [Go.Lib.decode_at]
  have : (Go.Lib.decodeN (s.size - pos) (s.get! pos).toNat (s.get! (pos + 1)).toNat (s.get! (pos + 2)).toNat (s.get! (pos + 3)).toNat).2 ≤ s.size - pos := by
    unfold Go.Lib.decodeN
    repeat' split
    all_goals (simp only; omega)
  omega
noncomputable def decR (l : List UInt8) : Int := Classical.choose (decode_sp l)
noncomputable def decN (l : List UInt8) : Int := Classical.choose (Classical.choose_spec (decode_sp l))
theorem dec_sp (l : List UInt8) (H : Hp) (hT : Tb H) (Q : AV → Hp → Prop) (h : Q (.tup [.v (.int .i32 (decR l)), .v (.int .i64 (decN l))]) H) : Sp Tryd.prog 79 [.v (.string (tx l))] Q H := by
  refine (Classical.choose_spec (Classical.choose_spec (decode_sp l)) H hT).mono ?_
  rintro v H' ⟨rfl, rfl⟩
  exact h
/-- A letter: its rune, or the byte that is none. -/
abbrev Lt := Int × Bool
def ltC (x : Lt) : List AV := [.v (.int .i32 x.1), .v (.bool x.2)]
theorem ltC_len (x : Lt) : (ltC x).length = 2 := rfl
noncomputable def ltAt (l : List UInt8) (pos : Nat) : Lt := if ((Utf8.decode (tx l) pos).1 : Int) = 65533 ∧ decN (l.drop pos) = 1 then (IntKind.i32.wrap ((l.getD pos 0).toNat : Int), true) else ((Utf8.decode (tx l) pos).1, false)
noncomputable def ltsF (l : List UInt8) : Nat → Nat → List Lt
  | 0, _ => []
  | f + 1, pos => if pos < l.length then ltAt l pos :: ltsF l f (pos + (Utf8.decode (tx l) pos).2) else []
noncomputable def lts (l : List UInt8) : List Lt := ltsF l l.length 0

def LsInv (l : List UInt8) (H : Hp) (n : Nat) (xs : List AV) (H2 : Hp) : Prop := ∃ (pos id : Nat) (v : AV) (acc : List Lt), n = l.length - pos ∧ pos ≤ l.length ∧ acc.length ≤ pos ∧ acc ++ ltsF l (l.length - pos) pos = lts l ∧ xs = [.v (.string (tx l)), v, .it id] ∧ H.length ≤ id ∧ H2[id]? = some (.strIter (tx l) pos) ∧ NewK 2 H H2 acc.length (acc.flatMap ltC) v ∧ Same [] H H2

theorem LsInv.step {l : List UInt8} {H H2 H3 : Hp} {pos id : Nat} {v : AV} {acc : List Lt} {x : Bool} {K : AV → Hp → Prop} (hl : l.length ≤ 1000000) (hlt : pos < l.length) (ha : acc.length ≤ pos) (hall : acc ++ ltsF l (l.length - pos) pos = lts l) (hid : H.length ≤ id) (hit : H2[id]? = some (.strIter (tx l) pos)) (hn : NewK 2 H H2 acc.length (acc.flatMap ltC) v) (hs : Same [] H H2)
    (hk : ∀ v' H' m, m < l.length - pos → LsInv l H m [.v (.string (tx l)), v', .it id] H' → K v' H') : appA (H2.set id (.strIter (tx l) (pos + (Utf8.decode (tx l) pos).2))) 2 8 v (.row x 1 (ltC (ltAt l pos))) K := by
  have hg := decode_ge (tx l) pos
  have hle := decode_le (tx l) pos (by rw [tx_size]; exact hlt)
  rw [tx_size] at hle
  have hil := Hp.lt hit
  have hn2 : NewK 2 H (H2.set id (.strIter (tx l) (pos + (Utf8.decode (tx l) pos).2))) acc.length (acc.flatMap ltC) v := by
    refine hn.same (fp := [id]) (Same.set (by simp)) ?_
    intro j ver e
    rcases hn with ⟨_, _, rfl⟩ | ⟨_, _, id', ver', tl, rfl, h3, _⟩
    · cases e
    · simp at e
      obtain ⟨rfl, rfl⟩ := e
      simp only [List.mem_singleton]
      rintro rfl
      rw [hit] at h3; simp at h3
  refine hn2.app (ltC_len _) (by rw [List.length_set]; exact hs.1) ⟨by omega, by omega⟩ ?_
  intro v' H' fp hn' hs' hfp
  have hidn : id ∉ fp := by
    intro hm
    obtain ⟨_, ver, ds, h⟩ := hfp id hm
    rw [List.getElem?_set_self hil] at h
    simp at h
  refine hk v' H' (l.length - (pos + (Utf8.decode (tx l) pos).2)) (by omega) ⟨pos + (Utf8.decode (tx l) pos).2, id, v', acc ++ [ltAt l pos], rfl, by omega, by simp; omega, ?_, rfl, hid, hs'.2 _ _ (by rw [List.getElem?_set_self hil]) hidn, by simpa using hn', ?_⟩
  · rw [← hall]
    have hd : l.length - pos = (l.length - pos - 1) + 1 := by omega
    rw [hd, ltsF, if_pos hlt, List.append_assoc]
    have : ∀ (f g p : Nat), l.length - p ≤ f → l.length - p ≤ g → ltsF l f p = ltsF l g p := by
      intro f
      induction f with
      | zero =>
        intro g p h1 h2
        cases g with
        | zero => rfl
        | succ g => simp only [ltsF]; rw [if_neg (by omega)]
      | succ f ih =>
        intro g p h1 h2
        cases g with
        | zero => simp only [ltsF]; rw [if_neg (by omega)]
        | succ g =>
          simp only [ltsF]
          by_cases hp : p < l.length
          · rw [if_pos hp, if_pos hp]
            have := decode_ge (tx l) p
            rw [ih g _ (by omega) (by omega)]
          · rw [if_neg hp, if_neg hp]
    rw [this (l.length - pos - 1) (l.length - (pos + (Utf8.decode (tx l) pos).2)) _ (by omega) (by omega)]
    rfl
  · refine (hs.new (Same.set (fp := [id]) (by simp)) (by simpa using hid)).new hs' ?_
    intro j hj
    exact (hfp j hj).1

theorem letters_sp (l : List UInt8) (hl : l.length ≤ 1000000) (H : Hp) (hT : Tb H) : Sp Tryd.prog 50 [.v (.string (tx l))] (fun v H' => Same [] H H' ∧ NewK 2 H H' (lts l).length ((lts l).flatMap ltC) v) H := by
  refine Sp.body [(3, ⟨[0, 3, 9], [], []⟩)] ⟨[], [], []⟩ [] mo Tryd.func50 rfl (Nat.le_of_ble_eq_true rfl) (by kernel_rfl) ?_
  simp [ev_seq, ev_block, ev_region2, ev_loop, loopK, evOps_nil, evOps_cons, opG_none, opA_move, opA_assign, putO_some, putH_lt, putC_lt, opS, opV, Go.Mx.look, fr0, argSlots, seqK, mapO, headK, getV, getB, chkP, firstReg, rangeT_some, opA_range, Tryd.underlying9, rangeA]
  refine LoopC.intro (fun n xs _ H2 => LsInv l H n xs H2) l.length ⟨0, H.length, .v (.slice none 0 0), [], by omega, by omega, by simp, by simp [lts], by simp, by omega, by simp, NewK.nil _ _ _, Same.app _ _ _⟩ ?_
  rintro n xs bs H2 ⟨pos, id, v, acc, rfl, hp, ha, hall, rfl, hid, hit, hn, hs⟩
  simp [ev_skip, ev_seq, ev_cond2, ev_block, ev_exit, ev_ret, ev_region2, evOps_nil, evOps_cons, opG_none, opA_move, opA_assign, opA_bin, opA_extract, opA_buildSlice, opA_append, opA_slice, opA_build, putO_some, putH_lt, putC_lt, condB_true, condB_false, binT_some, binA, avO_some, extractT, buildSliceT, appendT, bndT, sliceT, repeatL_1, buildZ, partsZ, fillO, aggO, io_eql, opS, opV, Go.Mx.look, seqK, blockK, Fr.known, retK, retA, resA, mapO, extractA, cellsA_v, cellsA_agg, okPart_v, okPart_agg, Value.oneCell', sliceA, fillA, mkFr, slotsOf, ptrsOf, boxesOf, bindO, srcTy, orO_some, eqT_some, nextT_some, opA_next, Tryd.underlying9, tk21, st93, Tryd.underlying93, sz97, by97, ze97, of97, nextA, hit]
  refine ⟨fun hlt => ?_, fun hge => ?_⟩
  · rw [tx_size] at hlt
    have hle := decode_le (tx l) pos (by rw [tx_size]; exact hlt)
    rw [tx_size] at hle
    have hT2 : Tb (H2.set id (.strIter (tx l) (pos + (Utf8.decode (tx l) pos).2))) := hT.same (hs.new (Same.set (fp := [id]) (by simp)) (by simpa using hid))
    have hsl : sliceStr (tx l) (pos : Int) ((tx l).size : Int) = some (.v (.string (tx (l.drop pos)))) := by
      rw [tx_size, sliceStr_tx l _ _ ⟨by omega, by omega, by omega⟩]
      simp
      rw [List.take_of_length_le (by rw [List.length_drop]; omega)]
    have hix := indexStr_tx l .i64 pos hlt
    refine ⟨fun h1 => ?_, fun h1 => ?_⟩
    · simp [evOps_cons, opG_none, opA_call, putO_some, putH_lt, opS, opV, Go.Mx.look, mapO, callA, ok79, hsl]
      refine dec_sp _ _ hT2 _ ?_
      simp [ev_skip, ev_seq, ev_cond2, ev_region2, evOps_nil, evOps_cons, opG_none, opA_move, opA_assign, opA_bin, opA_extract, opA_index, opA_buildSlice, opA_append, opA_build, putO_some, putH_lt, putC_lt, binT_some, binA, avO_some, extractT, indexT, buildSliceT, appendT, repeatL_1, buildZ, partsZ, fillO, aggO, io_eql, opS, opV, Go.Mx.look, seqK, Fr.known, mapO, extractA, cellsA_v, cellsA_agg, okPart_v, okPart_agg, Value.oneCell', fillA, bindO, srcTy, orO_some, eqT_some, tk3, Tryd.underlying9, st93, Tryd.underlying93, sz97, by97, ze97, of97]
      refine ⟨fun h2 => ?_, fun h2 => ?_⟩
      · have he : ltAt l pos = (IntKind.i32.wrap ((l.getD pos 0).toNat : Int), true) := by unfold ltAt; rw [if_pos ⟨h1, h2⟩]
        simp [evOps_cons, opG_none, opA_buildSlice, opA_append, opA_convert, opA_build, putO_some, putH_lt, buildSliceT, appendT, convV, convT, repeatL_1, buildZ, partsZ, fillO, aggO, opS, opV, Go.Mx.look, mapO, convInt, cellsA_v, cellsA_agg, okPart_v, okPart_agg, Value.oneCell', fillA, bindO, srcTy, Tryd.underlying5, Tryd.underlying21, st93, Tryd.underlying93, sz97, by97, ze97, of97, hix, u8A]
        have := @LsInv.step l H H2 H2 pos id v acc true
        rw [he] at this
        refine this hl hlt ha hall hid hit hn hs ?_
        intro v' H' m hm hi
        simp [ev_exit, evOps_nil, evOps_cons, opG_none, opA_assign, putO_some, putH_lt, putC_lt, opS, opV, Go.Mx.look, seqK, blockK, mapO, headK, getV, getB, chkP]
        exact ⟨m, hm, hi⟩
      · have he : ltAt l pos = (((Utf8.decode (tx l) pos).1 : Int), false) := by unfold ltAt; rw [if_neg (fun h => h2 h.2)]
        have := @LsInv.step l H H2 H2 pos id v acc true
        rw [he] at this
        refine this hl hlt ha hall hid hit hn hs ?_
        intro v' H' m hm hi
        simp [evOps_nil, evOps_cons, opG_none, opA_assign, putO_some, putH_lt, putC_lt, opS, opV, Go.Mx.look, seqK, blockK, mapO, headK, getV, getB, chkP]
        exact ⟨m, hm, hi⟩
    · have he : ltAt l pos = (((Utf8.decode (tx l) pos).1 : Int), false) := by unfold ltAt; rw [if_neg (fun h => h1 h.1)]
      have := @LsInv.step l H H2 H2 pos id v acc true
      rw [he] at this
      refine this hl hlt ha hall hid hit hn hs ?_
      intro v' H' m hm hi
      simp [evOps_nil, evOps_cons, opG_none, opA_assign, putO_some, putH_lt, putC_lt, opS, opV, Go.Mx.look, seqK, blockK, mapO, headK, getV, getB, chkP]
      exact ⟨m, hm, hi⟩
  · rw [tx_size] at hge
    obtain rfl : pos = l.length := by omega
    have : acc = lts l := by rw [← hall, Nat.sub_self]; simp [ltsF]
    subst this
    exact ⟨hs, hn⟩
end Go.Proofs.YtgefinddmggpnaaDoor

namespace Go.Proofs.YtgefinddmggpnaaDoor
open Go.Mx
set_option linter.unusedVariables false
set_option linter.unusedSimpArgs false
set_option maxRecDepth 100000

/-! ### Small letters -/
def lowL (x : Lt) : Lt := if x.2 = false ∧ 65 ≤ x.1 ∧ x.1 ≤ 90 then (x.1 + 32, x.2) else x
def lowTo (ls : List Lt) (i : Nat) : List Lt := (ls.take i).map lowL ++ ls.drop i
theorem lowTo_len (ls : List Lt) (i : Nat) : (lowTo ls i).length = ls.length := by simp [lowTo]; omega
theorem lowTo_at {ls : List Lt} {i : Nat} {x : Lt} (h : ls[i]? = some x) : (lowTo ls i)[i]? = some x := by
  have hi := (List.getElem?_eq_some_iff.1 h).1
  unfold lowTo
  rw [List.getElem?_append_right (by simp; omega)]
  simp [Nat.min_eq_left (Nat.le_of_lt hi), h]
theorem lowTo_succ {ls : List Lt} {i : Nat} {x : Lt} (h : ls[i]? = some x) : lowTo ls (i + 1) = (lowTo ls i).set i (lowL x) := by
  obtain ⟨hi, he⟩ := List.getElem?_eq_some_iff.1 h
  unfold lowTo
  rw [List.set_append_right _ _ (by simp; omega), List.take_add_one, h]
  have hd : ls.drop i = x :: ls.drop (i + 1) := by rw [List.drop_eq_getElem_cons hi, he]
  rw [hd]
  simp [Nat.min_eq_left (Nat.le_of_lt hi)]

theorem flat_subT {α : Type} {f : α → List AV} {n : Nat} (hn : ∀ x, (f x).length = n) {x : α} {l : List α} {i : Nat} (h : l[i]? = some x) (tl : List AV) : ((l.flatMap f ++ tl).drop (i * n)).take n = f x := by
  have hle := flat_le hn h
  rw [List.drop_append_of_le_length (by omega), List.take_append_of_le_length (by rw [List.length_drop]; omega)]
  exact flat_sub hn l i h
theorem lowTo_stay {ls : List Lt} {i : Nat} {x : Lt} (h : ls[i]? = some x) (he : lowL x = x) : lowTo ls (i + 1) = lowTo ls i := by
  rw [lowTo_succ h, he]
  have h2 := lowTo_at h
  obtain ⟨hi, e⟩ := List.getElem?_eq_some_iff.1 h2
  rw [← e]; exact List.set_getElem_self hi
theorem flat_set {L : List Lt} {i : Nat} {x : Lt} (h : L[i]? = some x) (r : Int) (tl : List AV) : (L.set i (r, x.2)).flatMap ltC ++ tl = (L.flatMap ltC ++ tl).take (i * 2) ++ .v (.int .i32 r) :: (L.flatMap ltC ++ tl).drop (i * 2 + 1) := by
  obtain ⟨hi, he⟩ := List.getElem?_eq_some_iff.1 h
  have hL : L = L.take i ++ x :: L.drop (i + 1) := by rw [← he, ← List.drop_eq_getElem_cons hi, List.take_append_drop]
  have hlen : ((L.take i).flatMap ltC).length = i * 2 := by rw [flat_len ltC_len, List.length_take, Nat.min_eq_left (Nat.le_of_lt hi)]
  have h1 : L.set i (r, x.2) = L.take i ++ (r, x.2) :: L.drop (i + 1) := by
    rw [List.set_eq_take_append_cons_drop, if_pos hi]
  have h2 : L.flatMap ltC ++ tl = (L.take i).flatMap ltC ++ (.v (.int .i32 x.1) :: .v (.bool x.2) :: ((L.drop (i + 1)).flatMap ltC ++ tl)) := by
    conv => lhs; rw [hL]
    simp [ltC]
  have h3 : (L.set i (r, x.2)).flatMap ltC ++ tl = (L.take i).flatMap ltC ++ (.v (.int .i32 r) :: .v (.bool x.2) :: ((L.drop (i + 1)).flatMap ltC ++ tl)) := by
    rw [h1]; simp [ltC]
  rw [h3, h2]
  generalize (L.take i).flatMap ltC = X at hlen
  rw [List.take_left' hlen, List.drop_append, hlen, List.drop_of_length_le (l := X) (by omega)]
  have : i * 2 + 1 - i * 2 = 1 := by omega
  rw [this]
  rfl
theorem low_sp (ls : List Lt) (hl : ls.length ≤ 1000000) (H0 H : Hp) (v : AV) (Q : AV → Hp → Prop) (hn : NewK 2 H0 H ls.length (ls.flatMap ltC) v) (hH : H0.length ≤ H.length)
    (h : ∀ H' fp, NewK 2 H0 H' ls.length ((ls.map lowL).flatMap ltC) v → Same fp H H' → (∀ j ∈ fp, ∃ ver, v = .sl j ver 2 0 ls.length) → Q v H') : Sp Tryd.prog 49 [v] Q H := by
  refine Sp.body [(2, ⟨[0, 5, 6, 7], [], []⟩)] ⟨[4], [], []⟩ [] mo Tryd.func49 rfl (Nat.le_of_ble_eq_true rfl) (by kernel_rfl) ?_
  rcases hn with ⟨h0, h1, rfl⟩ | ⟨h0, h1, id, ver, tl, rfl, h3, h4⟩
  · have : ls = [] := List.length_eq_zero_iff.1 h0
    subst this
    simp [ev_seq, ev_block, ev_region2, ev_loop, loopK, evOps_nil, evOps_cons, opG_none, opA_move, opA_assign, opA_len, putO_some, putH_lt, lenT_nil, opS, opV, Go.Mx.look, fr0, argSlots, seqK, mapO, headK, getV, getB, chkP, firstReg, Tryd.underlying93]
    refine LoopC.intro (fun n xs _ H2 => H2 = H ∧ xs = [.v (.slice none 0 0), .v (.slice none 0 0), .v (.int .i64 0), .v (.int .i64 0)]) 0 ⟨rfl, rfl⟩ ?_
    rintro n xs bs H2 ⟨rfl, rfl⟩
    simp [ev_seq, ev_cond2, ev_exit, ev_ret, ev_region2, evOps_nil, evOps_cons, opG_none, opA_move, opA_assign, opA_bin, putO_some, putH_lt, condB_false, binT_some, binA, avO_some, io_lss, opS, opV, Go.Mx.look, seqK, blockK, Fr.known, retK, retA, resA, mapO, mkFr, slotsOf, ptrsOf, boxesOf, orO_some, eqT_some, tk3]
    exact h _ [] (NewK.nil _ _ _) (Same.refl _ _) (by simp)
  · simp [ev_seq, ev_block, ev_region2, ev_loop, loopK, evOps_nil, evOps_cons, opG_none, opA_move, opA_assign, opA_len, putO_some, putH_lt, lenT_sl, opS, opV, Go.Mx.look, fr0, argSlots, seqK, mapO, headK, getV, getB, chkP, firstReg, Tryd.underlying93]
    refine LoopC.intro (fun n xs _ H2 => ∃ i : Nat, i ≤ ls.length ∧ n = ls.length - i ∧ xs = [.sl id ver 2 0 ls.length, .sl id ver 2 0 ls.length, .v (.int .i64 ls.length), .v (.int .i64 i)] ∧ H2[id]? = some (.cells ver ((lowTo ls i).flatMap ltC ++ tl)) ∧ Same [id] H H2) ls.length ⟨0, by omega, by omega, rfl, by simpa [lowTo] using h3, Same.refl _ _⟩ ?_
    rintro n xs bs H2 ⟨i, hi, rfl, rfl, hc, hs⟩
    have hcl : ∀ k, ((lowTo ls k).flatMap ltC).length = ls.length * 2 := by
      intro k
      rw [flat_len ltC_len, lowTo_len]
    have hA : ∃ A, A = (lowTo ls i).flatMap ltC ++ tl := ⟨_, rfl⟩
    obtain ⟨A, hA⟩ := hA
    have hAl : A.length = ls.length * 2 + tl.length := by rw [hA, List.length_append, hcl]
    have hc' := hc
    rw [← hA] at hc
    simp [ev_skip, ev_seq, ev_cond2, ev_block, ev_exit, ev_ret, ev_region2, evOps_nil, evOps_cons, opG_none, opA_move, opA_assign, opA_bin, opA_indexAddr, putO_some, putH_lt, binT_some, binA, avO_some, indexAddrT, io_lss, opS, opV, Go.Mx.look, seqK, blockK, Fr.known, retK, retA, resA, mapO, indexAddrA, mkFr, slotsOf, ptrsOf, boxesOf, orO_some, eqT_some, tk3, Tryd.underlying93, sz97]
    refine ⟨fun hlt => ?_, fun hge => ?_⟩
    · have hx := List.getElem?_eq_getElem hlt
      generalize ls[i] = x at hx
      have hx2 := lowTo_at hx
      have gs := flat_subT ltC_len hx2 tl
      rw [← hA] at gs
      have hle : i * 2 + 2 ≤ A.length := by omega
      have w1 : IntKind.i64.wrap ((i : Int) + 1) = (i : Int) + 1 := wr_i64 (by omega)
      have g0 : A[i * 2]? = some (.v (.int .i32 x.1)) := by
        have := congrArg (fun l => l[0]?) gs
        simpa [List.getElem?_take, List.getElem?_drop, ltC] using this
      simp [ev_skip, ev_seq, ev_cond2, ev_region2, evOps_nil, evOps_cons, opG_none, opG_some, opJ, opU_ft, isU_bool, opK_eq, opA_move, opA_assign, opA_pick, opA_bin, opA_un, opA_load, opA_indexAddr, opA_fieldAddr, opA_alloc, opA_store, putO_some, putH_lt, putU_none, putV_lt, condB_true, condB_false, binT_some, binA, avO_some, pickT, unT, loadT, fieldAddrT, indexAddrT, allocT, storeT, io_add, io_leq, io_geq, opS, opV, Go.Mx.look, seqK, blockK, Fr.known, Fr.newBox, dropBp, mapO, unA, cellsA_agg, okPart_agg, partA, loadA, loadS, plusS, indexAddrA, newK, storeS, headK, getV, getB, chkP, orO_some, eqT_some, tk3, sz4, ag4, sz21, ag21, tk21, Tryd.underlying93, sz97, ag97, ze97, Tryd.underlying97, hc, hlt, gs, hle, ltC, splice]
      have stay : lowL x = x → ∃ m, m < ls.length - i ∧ ∃ i_1 : Nat, i_1 ≤ ls.length ∧ m = ls.length - i_1 ∧ IntKind.i64.wrap ((i : Int) + 1) = (i_1 : Int) ∧ A = (lowTo ls i_1).flatMap ltC ++ tl ∧ Same [id] H H2 := fun he =>
        ⟨ls.length - (i + 1), by omega, i + 1, by omega, rfl, by rw [w1]; omega, by rw [lowTo_stay hx he]; exact hA, hs⟩
      refine ⟨fun h5 => ⟨fun h6 => ⟨fun h7 => ?_, fun h7 => stay ?_⟩, fun h6 => stay ?_⟩, fun h5 => stay ?_⟩
      · have w2 : IntKind.i32.wrap (x.1 + 32) = x.1 + 32 := wr_i32 (by omega)
        have hlt2 : i * 2 < A.length := by omega
        have g0' : A[i * 2] = .v (.int .i32 x.1) := (List.getElem?_eq_some_iff.1 g0).2
        simp [ev_region2, evOps_nil, evOps_cons, opG_none, opA_move, opA_bin, opA_indexAddr, opA_fieldAddr, opA_store, putO_some, putH_lt, putU_none, binT_some, binA, avO_some, fieldAddrT, indexAddrT, storeT, io_add, opS, opV, Go.Mx.look, seqK, blockK, mapO, cellsA_v, okPart_v, Value.oneCell', plusS, indexAddrA, storeS, headK, getV, getB, chkP, orO_some, eqT_some, tk3, sz21, tk21, Tryd.underlying93, sz97, Tryd.underlying97, hc, hlt, g0', w1, w2, hlt2, splice]
        have hL : lowL x = (x.1 + 32, x.2) := by unfold lowL; rw [if_pos ⟨h5, h6, h7⟩]
        have hf := flat_set hx2 (x.1 + 32) tl
        rw [← hA] at hf
        have hfin : (H2.set id (.cells ver (A.take (i * 2) ++ .v (.int .i32 (x.1 + 32)) :: A.drop (i * 2 + 1))))[id]? = some (.cells ver ((lowTo ls (i + 1)).flatMap ltC ++ tl)) := by
          rw [List.getElem?_set_self (Hp.lt hc), lowTo_succ hx, hL, hf]
        refine ⟨by omega, ls.length - (i + 1), by omega, i + 1, by omega, rfl, by omega, by simpa using hfin, hs.trans (Same.set (fp := [id]) (by simp)) (by simp)⟩
      · unfold lowL; rw [if_neg (by omega)]
      · unfold lowL; rw [if_neg (by omega)]
      · unfold lowL; rw [if_neg (by simp [h5])]
    · obtain rfl : i = ls.length := by omega
      have e : lowTo ls ls.length = ls.map lowL := by simp [lowTo]
      rw [e] at hc'
      refine h H2 [id] (.inr ⟨h0, by rw [flat_len ltC_len, List.length_map], id, ver, tl, rfl, hc', h4⟩) hs ?_
      intro j hj
      simp at hj
      exact ⟨ver, by rw [hj]⟩

theorem isL_sp (x : Lt) (r : Int) (H : Hp) (Q : AV → Hp → Prop) (h : Q (.v (.bool (decide (x.2 = false ∧ x.1 = r)))) H) : Sp Tryd.prog 80 [.agg (ltC x), .v (.int .i32 r)] Q H := by
  refine Sp.body [] ⟨[2], [], []⟩ [] mo Tryd.func80 rfl (Nat.le_of_ble_eq_true rfl) (by kernel_rfl) ?_
  obtain ⟨a, b⟩ := x
  cases b with
  | true => simp [ev_seq, ev_ret, ev_region2, evOps_nil, evOps_cons, opG_none, opG_some, opJ, opU_ft, isU_bool, opA_move, opA_assign, opA_pick, opA_un, opA_load, opA_fieldAddr, opA_box, putO_some, putH_lt, putV_lt, condB_false, pickT, unT, loadT, fieldAddrT, boxT, opS, opV, Go.Mx.look, fr0, argSlots, seqK, Fr.known, Fr.newBox, dropBp, retK, retA, resA, mapO, unA, cellsA_agg, okPart_agg, partA, loadS, plusS, newK, sz4, ag4, Tryd.underlying97, ltC] at h ⊢; exact h
  | false =>
    by_cases h1 : a = r
    · simp [ev_seq, ev_ret, ev_region2, evOps_nil, evOps_cons, opG_none, opG_some, opJ, opU_ft, isU_bool, opK_eq, opA_move, opA_assign, opA_pick, opA_bin, opA_un, opA_load, opA_fieldAddr, opA_box, putO_some, putH_lt, condB_true, binT_some, binA, avO_some, pickT, unT, loadT, fieldAddrT, boxT, io_eql, opS, opV, Go.Mx.look, fr0, argSlots, seqK, Fr.known, Fr.newBox, dropBp, retK, retA, resA, mapO, unA, cellsA_agg, okPart_agg, partA, loadS, plusS, newK, orO_some, eqT_some, sz4, ag4, sz21, ag21, tk21, Tryd.underlying97, ltC, h1] at h ⊢; exact h
    · have e : (a == r) = false := by simp [h1]
      simp [h1] at h
      simp [ev_seq, ev_ret, ev_region2, evOps_nil, evOps_cons, opG_none, opG_some, opJ, opU_ft, isU_bool, opK_eq, opA_move, opA_assign, opA_pick, opA_bin, opA_un, opA_load, opA_fieldAddr, opA_box, putO_some, putH_lt, condB_true, binT_some, binA, avO_some, pickT, unT, loadT, fieldAddrT, boxT, io_eql, opS, opV, Go.Mx.look, fr0, argSlots, seqK, Fr.known, Fr.newBox, dropBp, retK, retA, resA, mapO, unA, cellsA_agg, okPart_agg, partA, loadS, plusS, newK, orO_some, eqT_some, sz4, ag4, sz21, ag21, tk21, Tryd.underlying97, ltC, e]
      exact h

def wordB (x : Lt) : Bool := decide (x.2 = false ∧ ((97 ≤ x.1 ∧ x.1 ≤ 122) ∨ (65 ≤ x.1 ∧ x.1 ≤ 90) ∨ (48 ≤ x.1 ∧ x.1 ≤ 57) ∨ x.1 = 95 ∨ 128 ≤ x.1))
theorem word_sp (x : Lt) (H : Hp) (Q : AV → Hp → Prop) (h : Q (.v (.bool (wordB x))) H) : Sp Tryd.prog 52 [.agg (ltC x)] Q H := by
  refine Sp.body [] ⟨[1], [], []⟩ [] mo Tryd.func52 rfl (Nat.le_of_ble_eq_true rfl) (by kernel_rfl) ?_
  obtain ⟨a, b⟩ := x
  cases b with
  | true => simp [ev_seq, ev_ret, ev_region2, evOps_nil, evOps_cons, opG_none, opG_some, opJ, opU_true, opU_ft, isU_undef, isU_bool, opA_move, opA_assign, opA_pick, opA_un, opA_load, opA_fieldAddr, opA_box, putO_some, putH_lt, putV_lt, condB_false, pickT, unT, loadT, fieldAddrT, boxT, opS, opV, Go.Mx.look, fr0, argSlots, seqK, Fr.known, Fr.newBox, dropBp, retK, retA, resA, mapO, unA, cellsA_agg, okPart_agg, partA, loadS, plusS, newK, sz4, ag4, sz21, ag21, Tryd.underlying97, ltC, wordB] at h ⊢; exact h
  | false =>
    have kt : ((97 ≤ a ∧ a ≤ 122) ∨ (65 ≤ a ∧ a ≤ 90) ∨ (48 ≤ a ∧ a ≤ 57) ∨ a = 95 ∨ 128 ≤ a) → Q (.v (.bool true)) H := fun hp => by
      have : wordB (a, false) = true := by unfold wordB; exact decide_eq_true ⟨rfl, hp⟩
      rw [this] at h; exact h
    have kf : ¬ ((97 ≤ a ∧ a ≤ 122) ∨ (65 ≤ a ∧ a ≤ 90) ∨ (48 ≤ a ∧ a ≤ 57) ∨ a = 95 ∨ 128 ≤ a) → Q (.v (.bool false)) H := fun hp => by
      have : wordB (a, false) = false := by unfold wordB; exact decide_eq_false (fun h => hp h.2)
      rw [this] at h; exact h
    have kd : ¬ ((97 ≤ a ∧ a ≤ 122) ∨ (65 ≤ a ∧ a ≤ 90) ∨ (48 ≤ a ∧ a ≤ 57) ∨ a = 95) → Q (.v (.bool (decide (128 ≤ a)))) H := fun hp => by
      by_cases h8 : 128 ≤ a
      · rw [decide_eq_true h8]; exact kt (by omega)
      · rw [decide_eq_false h8]; exact kf (by omega)
    clear h
    simp [ev_seq, ev_ret, ev_region2, evOps_nil, evOps_cons, opG_none, opG_some, opJ, opU_true, opU_ft, opU_ff, isU_undef, isU_bool, opK_eq, opA_move, opA_assign, opA_pick, opA_bin, opA_un, opA_load, opA_fieldAddr, opA_box, putO_some, putH_lt, putV_lt, condB_true, condB_false, binT_some, binA, avO_some, pickT, unT, loadT, fieldAddrT, boxT, io_eql, io_leq, io_geq, opS, opV, Go.Mx.look, fr0, argSlots, seqK, Fr.known, Fr.newBox, dropBp, retK, retA, resA, mapO, unA, cellsA_agg, okPart_agg, partA, loadS, plusS, newK, orO_some, eqT_some, sz4, ag4, sz21, ag21, tk21, Tryd.underlying97, ltC]
    repeat' (first | exact kt (by omega) | exact kf (by omega) | exact kd (by omega) | intro _ | constructor)
end Go.Proofs.YtgefinddmggpnaaDoor

namespace Go.Proofs.YtgefinddmggpnaaDoor
open Go.Mx
set_option linter.unusedVariables false
set_option linter.unusedSimpArgs false
set_option maxRecDepth 100000

def rowL (ls : List Lt) : AV := .row false ls.length (ls.flatMap ltC)
theorem lowR_sp (ls : List Lt) (hl : ls.length ≤ 1000000) (H0 H : Hp) (v : AV) (Q : AV → Hp → Prop) (hn : NewK 2 H0 H ls.length (ls.flatMap ltC) v) (hH : H0.length ≤ H.length)
    (h : ∀ H' fp, Same fp H H' → (∀ j ∈ fp, H0.length ≤ j) → Q (rowL (ls.map lowL)) H') : Sp Tryd.prog 49 [v] Q H := by
  have hn' := hn
  rcases hn with ⟨h0, h1, rfl⟩ | ⟨h0, h1, id, ver, tl, rfl, h3, h4⟩
  · have : ls = [] := List.length_eq_zero_iff.1 h0
    subst this
    refine Sp.weak (low_sp [] hl H0 H _ _ hn' hH ?_)
    intro H' fp hn2 hs hfp
    have h2 := h H' fp hs (fun j hj => by obtain ⟨_, e⟩ := hfp j hj; cases e)
    simp [rowL] at h2
    exact ⟨_, fun ρ I u hv => Wk.nil false _ _ _ hv, h2⟩
  · refine Sp.frozen (low_sp ls hl H0 H _ _ hn' hH ?_)
    intro H' fp hn2 hs hfp
    rcases hn2 with ⟨h0', _, _⟩ | ⟨_, h1', id', ver', tl', e, h3', _⟩
    · omega
    · simp at e
      obtain ⟨rfl, rfl⟩ := e
      have h2 := h (H'.set id .dead) (id :: fp) (hs.wide (fun j hj => by simp [hj]) |>.trans (Same.set (fp := [id]) (by simp)) (by simp)) (fun j hj => by
        rcases List.mem_cons.1 hj with rfl | hj
        · exact h4
        · obtain ⟨_, e⟩ := hfp j hj
          simp at e
          rw [← e.1]; exact h4)
      refine ⟨id, ver, 2, 0, ls.length, _, rfl, h3', by simp [h1'], ?_⟩
      have e : ((((ls.map lowL).flatMap ltC) ++ tl').drop 0).take (ls.length * 2) = (ls.map lowL).flatMap ltC := by rw [List.drop_zero, List.take_left' h1']
      rw [e]
      simpa [rowL] using h2

/-! ### Patterns -/
def starAt (P : List Lt) (p : Nat) : Bool := match P[p]? with
  | some x => decide (x.2 = false ∧ x.1 = 42)
  | none => false
def anyAt (P T : List Lt) (p s : Nat) : Bool := match P[p]?, T[s]? with
  | some x, some y => decide ((x.2 = false ∧ x.1 = 63) ∨ x = y)
  | _, _ => false
def tailB (P : List Lt) : Nat → Nat → Bool
  | 0, p => decide (p = P.length)
  | f + 1, p => if starAt P p then tailB P f (p + 1) else decide (p = P.length)
def mF (P T : List Lt) : Nat → Nat → Nat → Int → Nat → Bool
  | 0, p, _, _, _ => tailB P (P.length - p) p
  | f + 1, p, s, st, mk => if s < T.length then
      (if starAt P p then mF P T f (p + 1) s p s
      else if anyAt P T p s then mF P T f (p + 1) (s + 1) st mk
      else if st < 0 then false
      else mF P T f (st.toNat + 1) (mk + 1) st (mk + 1))
    else tailB P (P.length - p) p
def matchB (P T : List Lt) : Bool := mF P T (T.length * (P.length + 1) + P.length) 0 0 (-1) 0
def MInv (P T : List Lt) (b : Bool) (n : Nat) (xs : List AV) : Prop := ∃ (p s mk : Nat) (st : Int), p ≤ P.length ∧ mk ≤ s ∧ s ≤ T.length ∧ -1 ≤ st ∧ st < P.length ∧ (T.length - mk) * (P.length + 1) + (P.length - p) ≤ n ∧ mF P T n p s st mk = b ∧
  xs = [rowL P, rowL T, .v (.int .i64 p), .v (.int .i64 s), .v (.int .i64 st), .v (.int .i64 mk)]

def OkL (x : Lt) : Prop := -2147483648 ≤ x.1 ∧ x.1 ≤ 2147483647
theorem laidG : laidOutB Tryd.prog = true := by kernel_rfl
theorem agg97 : AggKey Tryd.prog 97 := AggKey.of laidG (Nat.le_of_ble_eq_true (by kernel_rfl)) (Nat.le_of_ble_eq_true (by kernel_rfl)) (by kernel_rfl) (by kernel_rfl) (by kernel_rfl)
theorem good97 {x : Lt} (h : OkL x) : KGood Tryd.prog 97 (.agg (ltC x)) := by
  have h := KGood.struct agg97 Tryd.underlying97 (by kernel_rfl) (by kernel_rfl) (by kernel_rfl) (us := [.int .i32 x.1, .bool x.2]) (by kernel_rfl) (fun i f hf => by
    match i, hf with
    | 0, hf => simp at hf; subst hf; exact ⟨rfl, by kernel_rfl, _, rfl, PlainAt.int Tryd.underlying21 (by unfold OkL at h; simp [Lit.wf, IntKind.min, IntKind.max, IntKind.signed, IntKind.bits]; omega)⟩
    | 1, hf => simp at hf; subst hf; exact ⟨rfl, by kernel_rfl, _, rfl, PlainAt.bool Tryd.underlying4⟩
    | i + 2, hf => simp at hf)
  exact h
theorem eq97 {x y : Lt} (hx : OkL x) (hy : OkL y) : eqAgg Tryd.prog 97 .eql (.agg [.v (.int .i32 x.1), .v (.bool x.2)]) (.agg [.v (.int .i32 y.1), .v (.bool y.2)]) = some (.v (.bool (decide (x = y)))) := by
  have h1 := good97 hx
  have h2 := good97 hy
  unfold ltC at h1 h2
  by_cases e : x = y
  · subst e; simp [eqAgg, h1]
  · have : ([AV.v (.int .i32 x.1), .v (.bool x.2)] : List AV) ≠ [.v (.int .i32 y.1), .v (.bool y.2)] := fun h => e (by
      simp at h
      exact Prod.ext h.1 h.2)
    classical
    simp only [eqAgg, h1, h2, and_self, if_true]
    rw [decide_eq_false this, decide_eq_false e]
theorem match_sp (P T : List Lt) (hP : P.length ≤ 1000000) (hT : T.length ≤ 1000000) (oP : ∀ x ∈ P, OkL x) (oT : ∀ x ∈ T, OkL x) (H : Hp) (Q : AV → Hp → Prop) (h : Q (.v (.bool (matchB P T))) H) : Sp Tryd.prog 53 [rowL P, rowL T] Q H := by
  obtain ⟨cp, hcp⟩ : ∃ cp, cp = P.flatMap ltC := ⟨_, rfl⟩
  obtain ⟨ct, hct⟩ : ∃ ct, ct = T.flatMap ltC := ⟨_, rfl⟩
  have hrP : rowL P = .row false P.length cp := by rw [hcp]; rfl
  have hrT : rowL T = .row false T.length ct := by rw [hct]; rfl
  have lP : cp.length = P.length * 2 := by rw [hcp, flat_len ltC_len]
  have lT : ct.length = T.length * 2 := by rw [hct, flat_len ltC_len]
  have atP : ∀ {p : Nat} {x : Lt}, P[p]? = some x → (cp.drop (p * 2)).take 2 = [.v (.int .i32 x.1), .v (.bool x.2)] := fun h => by rw [hcp]; exact flat_sub ltC_len P _ h
  have atT : ∀ {p : Nat} {x : Lt}, T[p]? = some x → (ct.drop (p * 2)).take 2 = [.v (.int .i32 x.1), .v (.bool x.2)] := fun h => by rw [hct]; exact flat_sub ltC_len T _ h
  clear hcp hct
  rw [hrP, hrT]
  refine Sp.body [(3, ⟨[0, 1, 5, 6, 7, 8], [], []⟩), (14, ⟨[0, 5], [], []⟩)] ⟨[], [], pl53⟩ tb53 mo Tryd.func53 rfl (Nat.le_of_ble_eq_true rfl) (by kernel_rfl) ?_
  simp [ev_seq, ev_block, ev_region2, ev_loop, loopK, evOps_nil, evOps_cons, opG_none, opA_assign, putO_some, putH_lt, opS, opV, Go.Mx.look, fr0, argSlots, seqK, mapO, headK, getV, getB, chkP, firstReg, ev_scope, ev_label, pl53]
  refine LoopC.intro (fun n xs _ H2 => MInv P T (matchB P T) n xs ∧ H2 = H) (T.length * (P.length + 1) + P.length) ⟨⟨0, 0, 0, -1, by omega, by omega, by omega, by omega, by omega, by simp, rfl, by simp [hrP, hrT]⟩, rfl⟩ ?_
  rintro n xs bs H2 ⟨⟨p, s, mk, st, hp, hm, hs, hst, hst2, hn, hb, rfl⟩, rfl⟩
  rw [hrP, hrT]
  by_cases hs1 : s < T.length
  · obtain ⟨f, rfl⟩ : ∃ f, n = f + 1 := ⟨n - 1, by
      have : 0 < (T.length - mk) * (P.length + 1) := Nat.mul_pos (by omega) (by omega)
      omega⟩
    have hy := List.getElem?_eq_getElem hs1
    generalize T[s] = y at hy
    have gT := atT hy
    have leT : s * 2 + 2 ≤ ct.length := by omega
    simp only [mF] at hb
    rw [if_pos hs1] at hb
    have wp : IntKind.i64.wrap ((p : Int) + 1) = (p : Int) + 1 := wr_i64 (by omega)
    have ws : IntKind.i64.wrap ((s : Int) + 1) = (s : Int) + 1 := wr_i64 (by omega)
    have wm : IntKind.i64.wrap ((mk : Int) + 1) = (mk : Int) + 1 := wr_i64 (by omega)
    have wt : IntKind.i64.wrap (st + 1) = st + 1 := wr_i64 (by omega)
    have hmul : ∀ a b : Nat, a ≤ b → (T.length - b) * (P.length + 1) ≤ (T.length - a) * (P.length + 1) := fun a b hab => Nat.mul_le_mul_right _ (by omega)
    -- the fall back
    have back : starAt P p = false → anyAt P T p s = false → ¬ st < 0 → MInv P T (matchB P T) f [rowL P, rowL T, .v (.int .i64 (st + 1)), .v (.int .i64 (mk + 1)), .v (.int .i64 st), .v (.int .i64 (mk + 1))] := by
      intro h1 h2 h3
      rw [h1, h2] at hb
      simp only [Bool.false_eq_true, if_false, h3] at hb
      have e : T.length - mk = (T.length - (mk + 1)) + 1 := by omega
      rw [e, Nat.succ_mul] at hn
      exact ⟨st.toNat + 1, mk + 1, mk + 1, st, by omega, by omega, by omega, by omega, by omega, by omega, hb, by
        have : ((st.toNat + 1 : Nat) : Int) = st + 1 := by omega
        rw [this]; simp⟩
    have quit : starAt P p = false → anyAt P T p s = false → st < 0 → matchB P T = false := by
      intro h1 h2 h3
      rw [h1, h2] at hb
      simp only [Bool.false_eq_true, if_false, h3, if_true] at hb
      exact hb.symm
    by_cases hp1 : p < P.length
    · have hx := List.getElem?_eq_getElem hp1
      generalize P[p] = x at hx
      have gP := atP hx
      have leP : p * 2 + 2 ≤ cp.length := by omega
      simp [ev_skip, ev_seq, ev_cond2, ev_block, ev_region2, evOps_nil, evOps_cons, opG_none, opG_some, opJ, opU_ft, isU_bool, opK_eq, opA_move, opA_bin, opA_load, opA_indexAddr, opA_len, opA_call, putO_some, putH_lt, condB_true, binT_some, binA, avO_some, loadT, lenT_row, indexAddrT, io_lss, opS, opV, Go.Mx.look, seqK, Fr.known, mapO, callA, partA, loadA, loadS, indexAddrA, mkFr, slotsOf, ptrsOf, boxesOf, orO_some, eqT_some, tk3, Tryd.underlying93, sz97, ag97, ok80, hs1, hp1, gP, leP]
      refine isL_sp x 42 _ _ ?_
      by_cases h42 : x.2 = false ∧ x.1 = 42
      · have hst : starAt P p = true := by unfold starAt; rw [hx]; exact decide_eq_true h42
        rw [hst] at hb
        simp [ev_seq, ev_cond2, ev_exit, ev_region2, evOps_nil, evOps_cons, opG_none, opA_move, opA_assign, opA_pick, opA_bin, putO_some, putH_lt, putC_lt, condB_true, binT_some, binA, avO_some, pickT, io_add, opS, opV, Go.Mx.look, seqK, blockK, Fr.known, mapO, headK, getV, getB, chkP, orO_some, eqT_some, tk3, h42, wp]
        simp only [if_true] at hb
        have hm2 := hmul mk s hm
        exact ⟨f, by omega, ⟨p + 1, s, s, p, by omega, by omega, by omega, by omega, by omega, by omega, hb, by simp [hrP, hrT]⟩⟩
      · have hst : starAt P p = false := by unfold starAt; rw [hx]; exact decide_eq_false h42
        simp [ev_seq, ev_cond2, evOps_nil, evOps_cons, opG_none, opG_some, opJ, opU_ft, isU_bool, opK_eq, opA_move, opA_assign, opA_pick, opA_bin, opA_load, opA_indexAddr, opA_len, opA_call, putO_some, putH_lt, putC_lt, condB_true, condB_false, binT_some, binA, avO_some, pickT, loadT, lenT_row, indexAddrT, io_lss, opS, opV, Go.Mx.look, seqK, Fr.known, mapO, callA, partA, loadA, loadS, indexAddrA, orO_some, eqT_some, ev_draw, drawK, evP_q, evP_s, opAt_some, tk3, Tryd.underlying93, sz97, ag97, ok80, h42, hp1, gP, leP]
        refine isL_sp x 63 _ _ ?_
        by_cases h63 : x.2 = false ∧ x.1 = 63
        · have han : anyAt P T p s = true := by unfold anyAt; rw [hx, hy]; exact decide_eq_true (.inl h63)
          rw [hst, han] at hb
          simp only [Bool.false_eq_true, if_false, if_true] at hb
          simp [ev_seq, ev_cond2, ev_exit, ev_region2, evOps_nil, evOps_cons, opG_none, opG_some, opJ, opU_ft, opU_ff, isU_bool, opK_eq, opA_move, opA_assign, opA_pick, opA_bin, putO_some, putH_lt, putC_lt, putV_lt, condB_true, binT_some, binA, avO_some, pickT, io_add, opS, opV, Go.Mx.look, seqK, blockK, Fr.known, mapO, headK, getV, getB, chkP, orO_some, eqT_some, evP_nil, evP_q, evP_s, opAt_some, chkK_eq, allQ_nil, tk3, h63, wp, ws]
          exact ⟨f, by omega, ⟨p + 1, s + 1, mk, st, by omega, by omega, by omega, by omega, by omega, by omega, hb, by simp [hrP, hrT]⟩⟩
        · have he := eq97 (oP x (List.mem_of_getElem? hx)) (oT y (List.mem_of_getElem? hy))
          by_cases hxy : x = y
          · have han : anyAt P T p s = true := by unfold anyAt; rw [hx, hy]; exact decide_eq_true (.inr hxy)
            rw [hst, han] at hb
            simp only [Bool.false_eq_true, if_false, if_true] at hb
            rw [decide_eq_true hxy] at he
            simp [ev_seq, ev_cond2, ev_exit, ev_region2, evOps_nil, evOps_cons, opG_none, opG_some, opJ, opU_ft, opU_ff, isU_bool, opK_eq, opA_move, opA_assign, opA_pick, opA_bin, opA_load, opA_indexAddr, putO_some, putH_lt, putC_lt, condB_true, condB_false, binT_some, binA, eqRef, avO_some, avO_none, pickT, loadT, indexAddrT, io_add, opS, opV, Go.Mx.look, seqK, blockK, Fr.known, mapO, partA, loadA, loadS, indexAddrA, headK, getV, getB, chkP, orO_some, orO_none, eqT_some, evP_nil, evP_q, evP_s, opAt_some, chkK_eq, allQ_nil, tk3, Tryd.underlying93, sz97, ag97, tk97, h63, wp, ws, hs1, hp1, gP, leP, gT, leT, he]
            exact ⟨f, by omega, ⟨p + 1, s + 1, mk, st, by omega, by omega, by omega, by omega, by omega, by omega, hb, by simp [hrP, hrT]⟩⟩
          · have han : anyAt P T p s = false := by unfold anyAt; rw [hx, hy]; exact decide_eq_false (fun h => h.elim h63 hxy)
            rw [decide_eq_false hxy] at he
            simp [ev_skip, ev_seq, ev_cond2, ev_ret, ev_region2, evOps_nil, evOps_cons, opG_none, opG_some, opJ, opU_ft, opU_ff, isU_bool, opK_eq, opA_move, opA_assign, opA_pick, opA_bin, opA_load, opA_indexAddr, putO_some, putH_lt, putC_lt, condB_true, condB_false, binT_some, binA, eqRef, avO_some, avO_none, pickT, loadT, indexAddrT, io_add, io_lss, opS, opV, Go.Mx.look, seqK, blockK, Fr.known, retK, retA, resA, mapO, partA, loadA, loadS, indexAddrA, headK, getV, getB, chkP, orO_some, orO_none, eqT_some, evP_nil, evP_q, evP_s, opAt_some, chkK_eq, allQ_nil, noGotoK_r, tk3, Tryd.underlying93, sz97, ag97, tk97, h63, hs1, hp1, gP, leP, gT, leT, he, wm, wt]
            refine ⟨fun h8 => ?_, fun h8 => ⟨f, by omega, ?_⟩⟩
            · rw [quit hst han h8] at h; exact h
            · have := back hst han (by omega)
              rwa [hrP, hrT] at this
    · have hstf : starAt P p = false := by unfold starAt; rw [List.getElem?_eq_none (by omega)]
      have hany : anyAt P T p s = false := by unfold anyAt; rw [List.getElem?_eq_none (by omega)]
      simp [ev_skip, ev_seq, ev_cond2, ev_block, ev_ret, ev_region2, evOps_nil, evOps_cons, opG_none, opG_some, opJ, opU_true, opU_ft, isU_undef, isU_bool, opA_move, opA_assign, opA_pick, opA_bin, opA_len, putO_some, putH_lt, putV_lt, condB_true, condB_false, binT_some, binA, avO_some, pickT, lenT_row, io_add, io_lss, opS, opV, Go.Mx.look, seqK, blockK, Fr.known, retK, retA, resA, mapO, headK, getV, getB, chkP, mkFr, slotsOf, ptrsOf, boxesOf, orO_some, eqT_some, ev_draw, drawK, evP_nil, evP_q, evP_s, opAt_some, chkK_eq, allQ_nil, noGotoK_r, tk3, Tryd.underlying93, hs1, hp1, wm, wt]
      refine ⟨fun h8 => ?_, fun h8 => ⟨f, by omega, ?_⟩⟩
      · rw [quit hstf hany h8] at h; exact h
      · have := back hstf hany (by omega)
        rwa [hrP, hrT] at this
  · simp [ev_seq, ev_cond2, ev_block, ev_exit, ev_region2, ev_loop, loopK, evOps_nil, evOps_cons, opG_none, opA_move, opA_bin, opA_len, putO_some, putH_lt, condB_false, binT_some, binA, avO_some, lenT_row, io_lss, opS, opV, Go.Mx.look, seqK, blockK, Fr.known, mapO, headK, getV, getB, chkP, mkFr, slotsOf, ptrsOf, boxesOf, firstReg, orO_some, eqT_some, tk3, Tryd.underlying93, hs1]
    have hend : tailB P (P.length - p) p = matchB P T := by
      cases n with
      | zero => exact hb
      | succ n => simp only [mF] at hb; rw [if_neg hs1] at hb; exact hb
    refine LoopC.intro (fun n xs _ H3 => ∃ p : Nat, p ≤ P.length ∧ n = P.length - p ∧ tailB P n p = matchB P T ∧ xs = [.row false P.length cp, .v (.int .i64 p)] ∧ H3 = H2) (P.length - p) ⟨p, hp, rfl, hend, rfl, rfl⟩ ?_
    clear hend hn hb
    rintro n xs bs H3 ⟨p, hp, rfl, hb, rfl, rfl⟩
    by_cases hp1 : p < P.length
    · have hx := List.getElem?_eq_getElem hp1
      generalize P[p] = x at hx
      have gP := atP hx
      have leP : p * 2 + 2 ≤ cp.length := by omega
      have wp : IntKind.i64.wrap ((p : Int) + 1) = (p : Int) + 1 := wr_i64 (by omega)
      have e1 : P.length - p = (P.length - (p + 1)) + 1 := by omega
      rw [e1, tailB] at hb
      simp [ev_seq, ev_region2, evOps_cons, opG_none, opG_some, opJ, opU_ft, isU_bool, opK_eq, opA_move, opA_bin, opA_load, opA_indexAddr, opA_len, opA_call, putO_some, putH_lt, condB_true, binT_some, binA, avO_some, loadT, lenT_row, indexAddrT, io_lss, opS, opV, Go.Mx.look, Fr.known, mapO, callA, partA, loadA, loadS, indexAddrA, mkFr, slotsOf, ptrsOf, boxesOf, orO_some, eqT_some, tk3, Tryd.underlying93, sz97, ag97, ok80, hp1, gP, leP]
      refine isL_sp x 42 _ _ ?_
      by_cases h42 : x.2 = false ∧ x.1 = 42
      · have hst : starAt P p = true := by unfold starAt; rw [hx]; exact decide_eq_true h42
        rw [hst] at hb
        simp only [if_true] at hb
        simp [ev_skip, ev_cond2, ev_block, ev_region2, evOps_nil, evOps_cons, opG_none, opA_move, opA_assign, opA_pick, opA_bin, putO_some, putH_lt, putC_lt, condB_true, binT_some, binA, avO_some, pickT, io_add, opS, opV, Go.Mx.look, seqK, blockK, Fr.known, mapO, headK, getV, getB, chkP, orO_some, eqT_some, tk3, h42, wp]
        exact ⟨P.length - (p + 1), by omega, p + 1, by omega, rfl, hb, by simp⟩
      · have hst : starAt P p = false := by unfold starAt; rw [hx]; exact decide_eq_false h42
        rw [hst] at hb
        have e2 : ¬ p = P.length := by omega
        simp only [Bool.false_eq_true, if_false, decide_eq_false e2] at hb
        rw [← hb] at h
        have e3 : decide (x.2 = false ∧ x.1 = 42) = false := decide_eq_false h42
        have e4 : ((p : Int) == (P.length : Int)) = false := by simp; omega
        rw [e3]
        simp [ev_seq, ev_cond2, ev_exit, ev_ret, ev_region2, evOps_nil, evOps_cons, opG_none, opA_move, opA_assign, opA_pick, opA_bin, opA_len, putO_some, putH_lt, putC_lt, condB_false, binT_some, binA, avO_some, pickT, lenT_row, io_eql, opS, opV, Go.Mx.look, seqK, blockK, Fr.known, retK, retA, resA, mapO, orO_some, eqT_some, noGotoK_r, tk3, Tryd.underlying93, e4]
        exact h
    · obtain rfl : p = P.length := by omega
      rw [Nat.sub_self, tailB, decide_eq_true rfl] at hb
      rw [← hb] at h
      simp [ev_seq, ev_cond2, ev_exit, ev_ret, ev_region2, evOps_nil, evOps_cons, opG_none, opG_some, opJ, opU_ft, isU_bool, opA_move, opA_assign, opA_pick, opA_bin, opA_len, putO_some, putH_lt, putV_lt, condB_false, binT_some, binA, avO_some, pickT, lenT_row, io_eql, io_lss, opS, opV, Go.Mx.look, seqK, blockK, Fr.known, retK, retA, resA, mapO, mkFr, slotsOf, ptrsOf, boxesOf, orO_some, eqT_some, noGotoK_r, tk3, Tryd.underlying93]
      exact h
end Go.Proofs.YtgefinddmggpnaaDoor

namespace Go.Proofs.YtgefinddmggpnaaDoor
open Go.Mx
set_option linter.unusedVariables false
set_option linter.unusedSimpArgs false
set_option maxRecDepth 100000

theorem rune_le' (s : ByteArray) (pos : Nat) : (Utf8.decode s pos).1 ≤ 1114111 := by
  rw [Go.Lib.decode_at]; unfold Go.Lib.decodeN
  repeat' split
  all_goals (simp only; omega)
theorem ltAt_ok (l : List UInt8) (pos : Nat) : OkL (ltAt l pos) := by
  unfold ltAt OkL
  split
  · have := UInt8.toNat_lt (l.getD pos 0)
    have e : IntKind.i32.wrap ((l.getD pos 0).toNat : Int) = ((l.getD pos 0).toNat : Int) := wr_i32 (by omega)
    simp only [e]; omega
  · have := rune_le' (tx l) pos
    simp only; omega
theorem ltsF_ok (l : List UInt8) : ∀ f pos, ∀ x ∈ ltsF l f pos, OkL x
  | 0, pos, x, h => by simp [ltsF] at h
  | f + 1, pos, x, h => by
    simp only [ltsF] at h
    split at h
    · rcases List.mem_cons.1 h with rfl | h
      · exact ltAt_ok l pos
      · exact ltsF_ok l f _ x h
    · simp at h
theorem ltsF_len (l : List UInt8) : ∀ f pos, (ltsF l f pos).length ≤ f
  | 0, pos => by simp [ltsF]
  | f + 1, pos => by
    simp only [ltsF]
    split
    · have := ltsF_len l f (pos + (Utf8.decode (tx l) pos).2)
      simp; omega
    · simp
theorem lts_len (l : List UInt8) : (lts l).length ≤ l.length := ltsF_len l _ _
theorem lowL_ok {x : Lt} (h : OkL x) : OkL (lowL x) := by
  unfold lowL OkL at *
  split
  · simp only; omega
  · exact h
/-- A text's letters, small. -/
noncomputable def smL (l : List UInt8) : List Lt := (lts l).map lowL
theorem smL_ok (l : List UInt8) : ∀ x ∈ smL l, OkL x := by
  intro x hx
  obtain ⟨y, hy, rfl⟩ := List.mem_map.1 hx
  exact lowL_ok (ltsF_ok l _ _ y hy)
theorem smL_len (l : List UInt8) : (smL l).length ≤ l.length := by unfold smL; rw [List.length_map]; exact lts_len l

def edgeB (T : List Lt) (i : Int) : Bool := decide (i < 0) || decide ((T.length : Int) ≤ i) || !(wordB (T.getD i.toNat (0, false)))
theorem edge_sp (T : List Lt) (i : Int) (id ver : Nat) (H : Hp) (hid : H[id]? = some (.cells ver [rowL T])) (Q : AV → Hp → Prop) (h : Q (.v (.bool (edgeB T i))) H) : Sp Tryd.prog 51 [.v (.int .i64 i), .ptr id ver 0] Q H := by
  obtain ⟨ct, hct⟩ : ∃ ct, ct = T.flatMap ltC := ⟨_, rfl⟩
  have hrT : rowL T = .row false T.length ct := by rw [hct]; rfl
  have lT : ct.length = T.length * 2 := by rw [hct, flat_len ltC_len]
  have atT : ∀ {p : Nat} {x : Lt}, T[p]? = some x → (ct.drop (p * 2)).take 2 = ltC x := fun h => by rw [hct]; exact flat_sub ltC_len T _ h
  clear hct
  rw [hrT] at hid
  refine Sp.body [] ⟨[], [], []⟩ [] mo Tryd.func51 rfl (Nat.le_of_ble_eq_true rfl) (by kernel_rfl) ?_
  by_cases h0 : i < 0
  · have e : edgeB T i = true := by unfold edgeB; rw [decide_eq_true h0]; rfl
    rw [e] at h
    simp [ev_seq, ev_ret, ev_region2, evOps_nil, evOps_cons, opG_none, opG_some, opJ, opU_ff, isU_bool, opA_move, opA_assign, opA_pick, opA_bin, putO_some, putH_lt, putV_lt, condB_true, binT_some, binA, avO_some, pickT, io_lss, opS, opV, Go.Mx.look, fr0, argSlots, seqK, Fr.known, retK, retA, resA, mapO, orO_some, eqT_some, tk3, h0]
    exact h
  · by_cases h1 : (T.length : Int) ≤ i
    · have e : edgeB T i = true := by unfold edgeB; rw [decide_eq_true h1]; simp
      rw [e] at h
      simp [ev_seq, ev_ret, ev_region2, evOps_nil, evOps_cons, opG_none, opG_some, opJ, opU_ff, isU_bool, opK_eq, opA_move, opA_assign, opA_pick, opA_bin, opA_load, opA_len, putO_some, putH_lt, putV_lt, condB_true, condB_false, binT_some, binA, avO_some, pickT, loadT, lenT_row, io_lss, io_geq, opS, opV, Go.Mx.look, fr0, argSlots, seqK, Fr.known, retK, retA, resA, mapO, partA, loadA, loadS, orO_some, eqT_some, tk3, sz93, ag93, Tryd.underlying93, hid, h0, h1]
      exact h
    · obtain ⟨j, rfl⟩ : ∃ j : Nat, i = j := ⟨i.toNat, by omega⟩
      have hj : j < T.length := by omega
      have hx := List.getElem?_eq_getElem hj
      generalize T[j] = x at hx
      have gT := atT hx
      have leT : j * 2 + 2 ≤ ct.length := by omega
      have e : edgeB T (j : Int) = !(wordB x) := by
        unfold edgeB
        rw [decide_eq_false h0, decide_eq_false h1]
        simp [List.getD_eq_getElem?_getD, hx]
      rw [e] at h
      simp [ev_seq, ev_region2, evOps_nil, evOps_cons, opG_none, opG_some, opJ, opU_ff, isU_bool, opK_eq, opA_move, opA_assign, opA_pick, opA_bin, opA_load, opA_indexAddr, opA_len, opA_call, putO_some, putH_lt, condB_false, binT_some, binA, avO_some, pickT, loadT, lenT_row, indexAddrT, io_lss, io_geq, opS, opV, Go.Mx.look, fr0, argSlots, seqK, Fr.known, mapO, callA, partA, loadA, loadS, indexAddrA, orO_some, eqT_some, tk3, sz93, ag93, Tryd.underlying93, sz97, ag97, ok52, hid, h0, h1, hj, gT, leT]
      refine word_sp x _ _ ?_
      simp [ev_ret, evOps_nil, evOps_cons, opG_none, opG_some, opJ, opU_ff, isU_bool, opK_eq, opA_assign, opA_pick, opA_un, putO_some, putH_lt, putC_lt, condB_false, pickT, unT, opS, opV, Go.Mx.look, seqK, Fr.known, retK, retA, resA, mapO, unA]
      exact h

def innerF (P T : List Lt) (frm : Nat) : Nat → Nat → Bool
  | 0, _ => false
  | f + 1, to => if edgeB T ((frm : Int) - 1) then (if edgeB T to && matchB P ((T.drop frm).take (to - frm)) then true else innerF P T frm f (to + 1)) else false
def outerF (P T : List Lt) : Nat → Nat → Bool
  | 0, _ => false
  | f + 1, frm => innerF P T frm (T.length + 1 - frm) frm || outerF P T f (frm + 1)
def wordF (P T : List Lt) : Bool := outerF P T (T.length + 1) 0
/-- glob.Word: one answer for each two texts. -/
noncomputable def globB (p t : List UInt8) : Bool := if p = [] then false else wordF (smL p) (smL t)

theorem glob_sp (p t : List UInt8) (hp : p.length ≤ 100000) (ht : t.length ≤ 100000) (H : Hp) (hT : Tb H) (Q : AV → Hp → Prop) (h : Q (.v (.bool (globB p t))) H) : Sp Tryd.prog 33 [.v (.string (tx p)), .v (.string (tx t))] Q H := by
  refine Sp.clean ?_
  refine Sp.body [(6, ⟨[5, 6, 7, 21, 22], [], []⟩), (9, ⟨[5, 6, 7, 8, 9, 21, 22], [], []⟩)] ⟨[], [], []⟩ [] mo Tryd.func33 rfl (Nat.le_of_ble_eq_true rfl) (by kernel_rfl) ?_
  by_cases hp0 : p = []
  · subst hp0
    simp [globB] at h
    simp [ev_seq, ev_cond2, ev_ret, ev_region2, evOps_nil, evOps_cons, opG_none, opA_move, opA_assign, opA_bin, putO_some, putH_lt, condB_true, binT_some, binA, avO_some, strOp, opS, opV, Go.Mx.look, fr0, argSlots, seqK, Fr.known, retK, retA, resA, mapO, orO_some, eqT_some, tk9, mk_tx, tx_list]
    exact h
  simp [globB, hp0] at h
  simp [ev_skip, ev_seq, ev_cond2, ev_region2, evOps_nil, evOps_cons, opG_none, opA_move, opA_assign, opA_bin, opA_call, putO_some, putH_lt, CondP_false, binT_some, binA, avO_some, strOp, opS, opV, Go.Mx.look, fr0, argSlots, seqK, Fr.known, mapO, callA, orO_some, eqT_some, tk9, ok50, mk_tx, tx_list, hp0]
  refine (letters_sp p (by omega) H hT).mono ?_
  rintro v1 H1 ⟨hs1, hn1⟩
  simp [evOps_cons, opG_none, opA_call, putC_lt, opS, opV, Go.Mx.look, mapO, callA, ok49]
  refine lowR_sp (lts p) (by have := lts_len p; omega) H H1 v1 _ hn1 hs1.1 ?_
  intro H2 fp2 hs2 hfp2
  have hs2' := hs1.new hs2 hfp2
  simp [evOps_cons, opG_none, opA_move, opA_call, putO_some, putH_lt, putC_lt, opS, opV, Go.Mx.look, mapO, callA, ok50]
  refine (letters_sp t (by omega) H2 (hT.same hs2')).mono ?_
  rintro v3 H3 ⟨hs3, hn3⟩
  simp [evOps_cons, opG_none, opA_call, putC_lt, opS, opV, Go.Mx.look, mapO, callA, ok49]
  refine lowR_sp (lts t) (by have := lts_len t; omega) H2 H3 v3 _ hn3 hs3.1 ?_
  intro H4 fp4 hs4 hfp4
  have hs4' := hs2'.new (hs3.new hs4 hfp4) (fp := []) (by simp)
  have eP : (lts p).map lowL = smL p := rfl
  have eT : (lts t).map lowL = smL t := rfl
  rw [eP, eT]
  have oP := smL_ok p
  have oT := smL_ok t
  have zP := smL_len p
  have zT := smL_len t
  generalize smL p = P at *
  generalize smL t = T at *
  have wT : IntKind.i64.wrap ((T.length : Int) + 1) = (T.length : Int) + 1 := wr_i64 (by omega)
  obtain ⟨cp, hcp⟩ : ∃ cp, cp = P.flatMap ltC := ⟨_, rfl⟩
  obtain ⟨ct, hct⟩ : ∃ ct, ct = T.flatMap ltC := ⟨_, rfl⟩
  have hrP : rowL P = .row false P.length cp := by rw [hcp]; rfl
  have hrT : rowL T = .row false T.length ct := by rw [hct]; rfl
  have lT : ct.length = T.length * 2 := by rw [hct, flat_len ltC_len]
  have subT : ∀ a b : Nat, a ≤ b → b ≤ T.length → AV.row false (b - a) ((ct.drop (a * 2)).take ((b - a) * 2)) = rowL ((T.drop a).take (b - a)) := by
    intro a b h1 h2
    rw [hct, flat_drop ltC_len, flat_take ltC_len]
    unfold rowL
    rw [List.length_take, List.length_drop, Nat.min_eq_left (by omega)]
  clear hcp hct
  rw [hrP, hrT]
  simp [ev_seq, ev_block, ev_region2, ev_loop, loopK, evOps_nil, evOps_cons, opG_none, opA_move, opA_assign, opA_bin, opA_load, opA_len, opA_alloc, opA_store, opA_makeFunc, putO_some, putH_lt, putC_lt, putU_none, binT_some, binA, avO_some, loadT, lenT_row, allocT, storeT, fnT, io_add, opS, opV, Go.Mx.look, seqK, mapO, cellsA_row, okPart_row, partA, loadA, loadS, newK, storeS, headK, getV, getB, chkP, firstReg, orO_some, eqT_some, tk3, sz93, ag93, ze93, Tryd.underlying93, splice, wT]
  have hid : (H4 ++ [Ob.cells 0 [rowL T]])[H4.length]? = some (.cells 0 [rowL T]) := by simp
  have hs5 : Same [] H (H4 ++ [Ob.cells 0 [rowL T]]) := hs4'.new (Same.app [] _ _) (by simp)
  rw [hrT] at hid hs5
  generalize H4 ++ [Ob.cells 0 [.row false T.length ct]] = H5 at hid hs5
  generalize H4.length = id at hid
  have hH5 := hs5.grown
  have hidL : H5[id]? = some (.cells 0 [rowL T]) := by rw [hrT]; exact hid
  have fin : ∀ b, wordF P T = b → (∃ G, H5 = H ++ G) ∧ Q (.v (.bool b)) H := fun b hb => ⟨hH5, by rw [← hb]; exact h⟩
  refine LoopC.intro (fun n xs _ H6 => ∃ frm : Nat, frm ≤ T.length + 1 ∧ n = T.length + 1 - frm ∧ outerF P T n frm = wordF P T ∧ xs = [.row false P.length cp, .ptr id 0 0, .fn (.func 51) [] [.ptr id 0 0], .v (.int .i64 ((T.length : Int) + 1)), .v (.int .i64 frm)] ∧ H6 = H5) (T.length + 1) ⟨0, by omega, by omega, rfl, by simp, rfl⟩ ?_
  rintro n xs bs H6 ⟨frm, hfr, rfl, hb, rfl, rfl⟩
  by_cases hlt : frm < T.length + 1
  · have hlt' : (frm : Int) < (T.length : Int) + 1 := by omega
    have e1 : T.length + 1 - frm = (T.length - frm) + 1 := by omega
    rw [e1, outerF] at hb
    have wf : IntKind.i64.wrap ((frm : Int) + 1) = (frm : Int) + 1 := wr_i64 (by omega)
    have wf1 : IntKind.i64.wrap ((frm : Int) - 1) = (frm : Int) - 1 := wr_i64 (by omega)
    simp [ev_skip, ev_seq, ev_cond2, ev_block, ev_region2, ev_loop, loopK, evOps_nil, evOps_cons, opG_none, opA_move, opA_assign, opA_bin, putO_some, putH_lt, condB_true, binT_some, binA, avO_some, io_lss, opS, opV, Go.Mx.look, seqK, Fr.known, mapO, headK, getV, getB, chkP, mkFr, slotsOf, ptrsOf, boxesOf, firstReg, orO_some, eqT_some, tk3, hlt']
    refine LoopC.intro (fun n xs _ H7 => ∃ to : Nat, frm ≤ to ∧ to ≤ T.length + 1 ∧ n = T.length + 1 - to ∧ (innerF P T frm n to || outerF P T (T.length - frm) (frm + 1)) = wordF P T ∧ xs = [.row false P.length cp, .ptr id 0 0, .fn (.func 51) [] [.ptr id 0 0], .v (.int .i64 frm), .v (.int .i64 to), .v (.int .i64 ((T.length : Int) + 1)), .v (.int .i64 frm)] ∧ H7 = H6) (T.length + 1 - frm) ⟨frm, by omega, by omega, rfl, hb, by simp, rfl⟩ ?_
    clear hb
    rintro n xs bs H7 ⟨to, hto, hto2, rfl, hb, rfl, rfl⟩
    have wt : IntKind.i64.wrap ((to : Int) + 1) = (to : Int) + 1 := wr_i64 (by omega)
    simp [ev_seq, ev_region2, evOps_cons, opG_none, opA_move, opA_bin, opA_call, putO_some, putH_lt, binT_some, binA, avO_some, io_sub, opS, opV, Go.Mx.look, mapO, callA, mkFr, slotsOf, ptrsOf, boxesOf, orO_some, eqT_some, tk3, ok51, wf1]
    have out : innerF P T frm (T.length + 1 - to) to = false → ∃ m, m < T.length + 1 - frm ∧ ∃ frm' : Nat, frm' ≤ T.length + 1 ∧ m = T.length + 1 - frm' ∧ outerF P T m frm' = wordF P T ∧ (frm : Int) + 1 = (frm' : Int) := fun h1 => by
      rw [h1, Bool.false_or] at hb
      exact ⟨T.length + 1 - (frm + 1), by omega, frm + 1, by omega, rfl, by
        have : T.length + 1 - (frm + 1) = T.length - frm := by omega
        rw [this]; exact hb, by omega⟩
    refine edge_sp T _ _ _ _ hidL _ ?_
    cases he : edgeB T ((frm : Int) - 1) with
    | false =>
      simp [ev_cond2, ev_exit, ev_region2, evOps_nil, evOps_cons, opG_none, opG_some, opJ, opU_ft, isU_bool, opA_move, opA_pick, opA_bin, putO_some, putH_lt, putC_lt, putV_lt, condB_false, binT_some, binA, avO_some, pickT, io_add, opS, opV, Go.Mx.look, seqK, blockK, Fr.known, mapO, headK, getV, getB, chkP, orO_some, eqT_some, tk3, wf]
      refine out ?_
      cases T.length + 1 - to with
      | zero => rfl
      | succ f => simp [innerF, he]
    | true =>
      by_cases hle : to ≤ T.length
      · have e2 : T.length + 1 - to = (T.length - to) + 1 := by omega
        rw [e2, innerF, he] at hb
        have next : (innerF P T frm (T.length - to) (to + 1) || outerF P T (T.length - frm) (frm + 1)) = wordF P T → ∃ m, m < T.length + 1 - to ∧ ∃ to' : Nat, frm ≤ to' ∧ to' ≤ T.length + 1 ∧ m = T.length + 1 - to' ∧ (innerF P T frm m to' || outerF P T (T.length - frm) (frm + 1)) = wordF P T ∧ (to : Int) + 1 = (to' : Int) := fun h1 =>
          ⟨T.length + 1 - (to + 1), by omega, to + 1, by omega, by omega, rfl, by
            have : T.length + 1 - (to + 1) = T.length - to := by omega
            rw [this]; exact h1, by omega⟩
        simp [ev_skip, ev_seq, ev_cond2, ev_block, ev_region2, evOps_nil, evOps_cons, opG_none, opG_some, opJ, opU_ft, isU_bool, opK_eq, opA_move, opA_pick, opA_bin, opA_load, opA_len, opA_call, putO_some, putH_lt, putC_lt, condB_true, binT_some, binA, avO_some, pickT, loadT, lenT_row, io_leq, opS, opV, Go.Mx.look, seqK, Fr.known, mapO, callA, partA, loadA, loadS, orO_some, eqT_some, tk3, sz93, ag93, Tryd.underlying93, ok51, hid, hle]
        refine edge_sp T _ _ _ _ hidL _ ?_
        cases he2 : edgeB T (to : Int) with
        | false =>
          rw [he2] at hb
          simp [ev_skip, ev_cond2, ev_region2, evOps_nil, evOps_cons, opG_none, opG_some, opJ, opU_ft, isU_bool, opA_move, opA_assign, opA_pick, opA_bin, putO_some, putH_lt, putC_lt, putV_lt, condB_false, binT_some, binA, avO_some, pickT, io_add, opS, opV, Go.Mx.look, seqK, blockK, Fr.known, mapO, headK, getV, getB, chkP, orO_some, eqT_some, tk3, wt]
          simp at hb
          exact next (by simpa using hb)
        | true =>
          rw [he2] at hb
          have hsub := subT frm to hto hle
          have hsl : AV.row false (to - frm) ((ct.drop (frm * 2)).take ((to - frm) * 2)) = rowL ((T.drop frm).take (to - frm)) := hsub
          have hsr : sliceRow 2 false T.length ct (frm : Int) (to : Int) = some (rowL ((T.drop frm).take (to - frm))) := by
            unfold sliceRow
            have a1 : ((to : Int) - (frm : Int)).toNat = to - frm := by omega
            rw [if_pos ⟨by omega, by omega, by omega⟩, ← hsub]
            simp [a1]
          simp [evOps_cons, opG_none, opG_some, opJ, opU_ft, isU_bool, opK_eq, opA_move, opA_load, opA_call, opA_slice, putO_some, putH_lt, putC_lt, condB_true, loadT, bndT, sliceT, opS, opV, Go.Mx.look, Fr.known, mapO, callA, partA, loadA, loadS, sliceA, sz93, ag93, Tryd.underlying93, sz97, ok53, hid, hsr]
          rw [← hrP]
          refine match_sp P _ (by omega) (by rw [List.length_take, List.length_drop]; omega) oP (fun x hx => oT x (List.mem_of_mem_drop (List.mem_of_mem_take hx))) _ _ ?_
          cases hmt : matchB P ((T.drop frm).take (to - frm)) with
          | true =>
            rw [hmt] at hb
            simp at hb
            simp [ev_seq, ev_cond2, ev_ret, ev_region2, evOps_nil, evOps_cons, opG_none, opA_assign, opA_pick, putO_some, putH_lt, putC_lt, condB_true, pickT, opS, opV, Go.Mx.look, seqK, blockK, Fr.known, retK, retA, resA, mapO]
            exact fin true hb
          | false =>
            rw [hmt] at hb
            simp [ev_skip, ev_cond2, ev_region2, evOps_nil, evOps_cons, opG_none, opA_move, opA_assign, opA_pick, opA_bin, putO_some, putH_lt, putC_lt, condB_false, binT_some, binA, avO_some, pickT, io_add, opS, opV, Go.Mx.look, seqK, blockK, Fr.known, mapO, headK, getV, getB, chkP, orO_some, eqT_some, tk3, wt]
            exact next (by simpa using hb)
      · simp [ev_cond2, ev_exit, ev_region2, evOps_nil, evOps_cons, opG_none, opG_some, opJ, opU_ft, isU_bool, opK_eq, opA_move, opA_pick, opA_bin, opA_load, opA_len, putO_some, putH_lt, putC_lt, condB_true, condB_false, binT_some, binA, avO_some, pickT, loadT, lenT_row, io_add, io_leq, opS, opV, Go.Mx.look, seqK, blockK, Fr.known, mapO, partA, loadA, loadS, headK, getV, getB, chkP, orO_some, eqT_some, tk3, sz93, ag93, Tryd.underlying93, hid, hle, wf]
        refine out ?_
        have : T.length + 1 - to = 0 := by omega
        rw [this]; rfl
  · have hlt' : ¬ ((frm : Int) < (T.length : Int) + 1) := by omega
    have : T.length + 1 - frm = 0 := by omega
    rw [this, outerF] at hb
    simp [ev_seq, ev_cond2, ev_exit, ev_ret, ev_region2, evOps_nil, evOps_cons, opG_none, opA_assign, opA_bin, putO_some, putH_lt, condB_false, binT_some, binA, avO_some, io_lss, opS, opV, Go.Mx.look, seqK, blockK, Fr.known, retK, retA, resA, mapO, mkFr, slotsOf, ptrsOf, boxesOf, orO_some, eqT_some, tk3, hlt']
    exact fin false hb.symm
end Go.Proofs.YtgefinddmggpnaaDoor
