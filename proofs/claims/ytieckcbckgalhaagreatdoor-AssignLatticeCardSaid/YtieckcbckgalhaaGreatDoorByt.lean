/-
  Rows of bytes: texts are appended, and are made of them.
-/
import Derived.Test.YtieckcbckgalhaaGreatDoorRec
import Derived.Lib.AppendStr
import Derived.Laws.BytesArg
namespace Go.Proofs.YtieckcbckgalhaaGreatDoor.E
open Go Go.RowKit Go.Proofs.YtieckcbckgalhaaGreatDoor.M
set_option linter.unusedVariables false
abbrev byL (s : Tx) : List Value := Go.Lib.strCells s
theorem byL_len (s : Tx) : (byL s).length = s.size := Go.Lib.strCells_length s
theorem tx_app_data (a b : Tx) : (a ++ b).data.toList = a.data.toList ++ b.data.toList := by
  rw [ByteArray.data_append, Array.toList_append]
theorem byL_app (a b : Tx) : byL (a ++ b) = byL a ++ byL b := by
  show (a ++ b).data.toList.map _ = a.data.toList.map _ ++ b.data.toList.map _
  rw [tx_app_data, List.map_append]
theorem tx_size_app (a b : Tx) : (a ++ b).size = a.size + b.size := ByteArray.size_append
def tc (c : UInt8) : Tx := ⟨#[c]⟩
section
variable {P : Program} {w0 w : World} {L : List Ent}
theorem run_appendS {base : Nat} {t u ty e : TypeId} {i : TypeInfo} (ht : P.underlying t = some (.slice e)) (hu : P.underlying u = some .string) (hi : P.info? e = some i) (hz : i.zero = some (.int .u8 0)) (hsize : i.size = 1) (hby : i.bytes = 1)
    {v : Value} {n : Nat} {xs : List Value} (hown : w.ownsRow base e 1 v n xs) (s : ByteArray) (h63 : n + s.size ≤ maxLen) (hbytes : n + s.size ≤ 140737488355328) (hbase : base ≤ w.heap.size) :
    ∃ v' w', (Builtin.append_ #[t, u] ty #[v, .string s]).run P w = .ok v' w' ∧ w'.ownsRow base e 1 v' (n + s.size) (xs ++ byL s) ∧ w.grownBy w' v.ownBlock ∧
      (v'.ownBlock = none ∨ v'.ownBlock = v.ownBlock ∨ v'.ownBlock = some w.heap.size) := by
  obtain ⟨v', w', hr, h2, h3, h4⟩ := Go.Lib.run_append_own_string (P := P) w base t u ty e i ht hu hi hz hsize hby v n xs hown s h63 hbytes hbase
  refine ⟨v', w', hr, h2, h3, ?_⟩
  have hsmall : n + s.size ≤ 9223372036854775807 := by simp only [maxLen] at h63; omega
  have hxl : xs.length = n := by simpa using hown.1
  rcases hown.2 with ⟨rfl, rfl⟩ | ⟨g, cap, cur, rfl, hbg, hg, hnc, hcm, hcs, htake⟩
  · by_cases hm : s.size = 0
    · exact .inl (by rw [h4.2 ⟨rfl, hm⟩]; rfl)
    · have hr2 := run_append_nil_string (P := P) w t u ty e i (.int .u8 0) ht hu hi hz s (by omega) (by omega) (by rw [hby]; omega)
      rw [hr2] at hr
      injection hr with e1 e2
      subst e1
      exact .inr (.inr rfl)
  · by_cases hroom : n + s.size ≤ cap
    · have hcs' : cur.size = cap := by simpa using hcs
      have hr2 := Go.Lib.run_append_room_string (P := P) w t u ty e i ht hu hi hsize g n cap cur hg s hroom (by omega)
      rw [hr2] at hr
      injection hr with e1 e2
      subst e1
      exact .inr (.inl rfl)
    · have holds : ∀ j u, xs[j]? = some u → w.cell? ((⟨g, 0, none⟩ : Addr).add j) = some u := hown.cells (g := g) rfl
      have hr2 := Go.Lib.run_append_grow_string (P := P) w t u ty e i (.int .u8 0) ht hu hi hz ⟨g, 0, none⟩ n cap xs (by rw [hsize]; simpa using hxl) holds s (by omega) (by omega) (by rw [hby]; exact growslice_fits (by omega) (by omega))
      rw [hr2] at hr
      injection hr with e1 e2
      subst e1
      exact .inr (.inr rfl)
variable {n : Nat} {ops : Array Oper} {k : K} {rest l : List Oper} {σ : Env} {op : Op} {ty : TypeId} {pos : String} {aft : Array Edge} {d : Nat} {x y : Operand} {dst : Option Tmp} {g : Option (Nat × Bool)}
theorem run_appS {t u : TypeId} {v : Value} {s : Tx} {w' : World} {v' : Value} (hx : ev σ x = v) (hy : ev σ y = S s) (hr : (Builtin.append_ #[t, u] ty #[v, .string s]).run P w = .ok v' w') :
    (execOp (ev σ) ⟨dst, .call { callee := .builtin .append, args := #[x, y], argTypes := #[t, u] }, ty, pos, aft, g⟩).run P w = .ok (.value v') w' := by
  simp [execOp, resolve, invoke, builtin, hx, hy, hr]
theorem RL.appS {t u e : TypeId} {i : Nat} {ie : TypeInfo} {v : Value} {m : Nat} {xs : List Value} {s : Tx} (hd : Nat.blt d n = true) (hH : Hp w0 w L) (hL : L[i]? = some (.row v e 1 m xs))
    (hx : ev σ x = v) (hy : ev σ y = S s) (ht : P.underlying t = some (.slice e)) (hu : P.underlying u = some .string) (hi : P.info? e = some ie) (hz : ie.zero = some (.int .u8 0)) (hsize : ie.size = 1) (hby : ie.bytes = 1)
    (hbytes : m + s.size ≤ 140737488355328) (hk : ∀ v' w', Hp w0 w' (L.set i (.row v' e 1 (m + s.size) (xs ++ byL s))) → RL P n ops k rest (upd σ d v') w') :
    RL P n ops k (⟨some d, .call { callee := .builtin .append, args := #[x, y], argTypes := #[t, u] }, ty, pos, aft, none⟩ :: rest) σ w := by
  obtain ⟨v', w', hr, h2, h3, h4⟩ := run_appendS (P := P) (ty := ty) ht hu hi hz hsize hby (hH.get hL) s (by simp only [maxLen]; omega) hbytes hH.size
  exact RL.val hd (run_appS hx hy hr) (hk v' w' (hH.appended hL h2 h3 h4))
variable {fuel i : Nat} {listed : Array Bool} {L' : List Ent}
theorem AO.appS {t u e : TypeId} {j : Nat} {ie : TypeInfo} {v : Value} {m : Nat} {xs : List Value} {s : Tx} (hi : l[i]? = some ⟨some d, .call { callee := .builtin .append, args := #[x, y], argTypes := #[t, u] }, ty, pos, aft, g⟩)
    (hg : ∀ a, Is n σ a → Region.wanted ⟨some d, .call { callee := .builtin .append, args := #[x, y], argTypes := #[t, u] }, ty, pos, aft, g⟩ (yielded l.toArray a.tmps) = true) (hd : Nat.blt d n = true) (hH : Hp w0 w L) (hL : L[j]? = some (.row v e 1 m xs))
    (hs : ∀ v', L'.Sublist (L.set j (.row v' e 1 (m + s.size) (xs ++ byL s)))) (hx : ev σ x = v) (hy : ev σ y = S s) (ht : P.underlying t = some (.slice e)) (hu : P.underlying u = some .string) (hie : P.info? e = some ie) (hz : ie.zero = some (.int .u8 0)) (hsize : ie.size = 1) (hby : ie.bytes = 1)
    (hbytes : m + s.size ≤ 140737488355328)
    (hk : ∀ v' w', Hp w0 w' (L.set j (.row v' e 1 (m + s.size) (xs ++ byL s))) → AN P n l (fun w => Hp w0 w L') k fuel (listed.setIfInBounds i true) (upd σ d v') w') : AO P n l (fun w => Hp w0 w L') k fuel listed σ w i := by
  obtain ⟨v', w', hr, h2, h3, h4⟩ := run_appendS (P := P) (ty := ty) ht hu hie hz hsize hby (hH.get hL) s (by simp only [maxLen]; omega) hbytes hH.size
  have hH' := hH.appended hL h2 h3 h4
  exact AO.val hi hg hd (run_appS hx hy hr) (hH'.sub (hs v')) (hk v' w' hH')
theorem strOf_byL (s : Tx) : strOfNums (s.data.toList.map fun b => (b.toNat : Int)) = s := by
  obtain ⟨⟨l⟩⟩ := s
  simp only [strOfNums, List.map_map]
  congr 2
  conv => rhs; rw [← List.map_id l]
  refine List.map_congr_left fun b _ => ?_
  simp
theorem run_convBS {src e sdst : TypeId} {v : Value} {m : Nat} {s : Tx} (hS : Sl w v 1 m (byL s)) (hs : P.underlying src = some (.slice e)) (he : P.underlying e = some (.int .u8)) (hd : P.underlying sdst = some .string) (hx : ev σ x = v) :
    (execOp (ev σ) ⟨dst, .convert src sdst x, ty, pos, aft, g⟩).run P w = .ok (.value (S s)) w := by
  obtain ⟨a, cap, hv, hnc, ha⟩ := hS.shape
  have hl := hS.len
  rw [byL_len, Nat.mul_one] at hl
  have hr : (convert src sdst v).run P w = .ok (.string s) w := by
    by_cases hm : m = 0
    · have h0 : s.size = 0 := by omega
      have e1 : s = ByteArray.empty := by
        obtain ⟨⟨l⟩⟩ := s
        have : l = [] := List.eq_nil_of_length_eq_zero h0
        subst this; rfl
      rw [hv, e1]
      rw [run_convert_bytes_string w src sdst e a m cap hs he hd]
      cases a with
      | none => simp [Conv.bytesToString]
      | some b =>
        have := run_bytesToString (P := P) w b m cap [] (by rw [hm]; simp [loadCells, loadCellsFrom])
        simpa using this
    · have ha' := ha (by omega)
      rw [hv, ha']
      have h1 := run_convert_bytes_arg (P := P) w src e hs he (sb v) (so v) m cap (s.data.toList.map fun b => (b.toNat : Int)) (by rw [List.length_map]; exact hl) (fun i hi => by
        have h2 : i < s.data.toList.length := by have : s.data.toList.length = s.size := rfl; omega
        refine hS.cell i _ ?_
        show (s.data.toList.map fun b => Value.int .u8 b.toNat)[i]? = _
        rw [List.getElem?_map, List.getElem?_eq_getElem h2, List.getD_eq_getElem?_getD, List.getElem?_map, List.getElem?_eq_getElem h2]
        rfl) sdst hd
      rw [strOf_byL] at h1
      exact h1
  simp [execOp, hx, hr]
end
end Go.Proofs.YtieckcbckgalhaaGreatDoor.E
