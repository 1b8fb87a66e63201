/-
  Steps of a run with maps. No conditions.
-/
import Derived.Test.YtblodpbcinkehaaKt
set_option linter.unusedVariables false
set_option linter.unusedSimpArgs false
namespace Go.Proofs.Ytblodpbcinkehaa.K

/-- Types of plain values. -/
class GoP (α : Type) where
  pv : α → V
  plain : ∀ a, isPlain (pv a) = true
instance : GoP Int := ⟨fun x => .int .i64 x, fun _ => rfl⟩
instance : GoP Bool := ⟨fun x => .bool x, fun _ => rfl⟩
instance : GoP ByteArray := ⟨fun x => .str x, fun _ => rfl⟩
/-- The keys of a kind are those of a type. -/
def KeyFit (kt : KT) (κ : Type) [GoP κ] [DecidableEq κ] : Prop := ∀ a b : κ, eqKey kt (GoP.pv a) (GoP.pv b) = some (decide (a = b))
theorem fit_int : KeyFit (.one .i) Int := fun a b => by
  show (if IntKind.i64 = IntKind.i64 then some (a == b) else none) = _
  rw [if_pos rfl]
  rfl
theorem fit_str : KeyFit (.one .s) ByteArray := fun a b => by
  show some (a == b) = _
  congr 1
  rw [Bool.eq_iff_iff, Go.MapKept.bytes_beq, decide_eq_true_eq]

section
variable {κ ν : Type} [DecidableEq κ]
def mfind (k : κ) : List (κ × ν) → Nat → Option (Nat × ν)
  | [], _ => none
  | e :: m, i => if k = e.1 then some (i, e.2) else mfind k m (i + 1)
def mget (k : κ) (m : List (κ × ν)) (z : ν) : ν := match mfind k m 0 with | some x => x.2 | none => z
def mhas (k : κ) (m : List (κ × ν)) : Bool := (mfind k m 0).isSome
def mset (k : κ) (v : ν) (m : List (κ × ν)) : List (κ × ν) := match mfind k m 0 with | some x => m.set x.1 (k, v) | none => m ++ [(k, v)]
def midx (k : κ) (m : List (κ × ν)) : Nat := match mfind k m 0 with | some x => x.1 | none => m.length
theorem mfind_get {k : κ} : ∀ {m : List (κ × ν)} {i : Nat} {x : Nat × ν}, mfind k m i = some x → i ≤ x.1 ∧ m[x.1 - i]? = some (k, x.2)
  | [], i, x, h => by simp [mfind] at h
  | e :: m, i, x, h => by
    unfold mfind at h
    split at h
    · rename_i hk
      simp only [Option.some.injEq] at h
      subst h
      exact ⟨Nat.le_refl _, by simp [hk]⟩
    · obtain ⟨h1, h2⟩ := mfind_get h
      refine ⟨by omega, ?_⟩
      rw [show x.1 - i = (x.1 - (i + 1)) + 1 by omega]
      exact h2
def mtouch (k : κ) (z : ν) (m : List (κ × ν)) : List (κ × ν) := match mfind k m 0 with | some x => m.set x.1 (k, x.2) | none => m ++ [(k, z)]
theorem touch_get (k : κ) (z : ν) (m : List (κ × ν)) : ∃ v, (mtouch k z m)[midx k m]? = some (k, v) := by
  unfold mtouch midx
  cases hx : mfind k m 0 with
  | none => exact ⟨z, by simp⟩
  | some q =>
    obtain ⟨_, h2⟩ := mfind_get hx
    have := (List.getElem?_eq_some_iff.1 h2).1
    exact ⟨q.2, by simp only []; rw [List.getElem?_set, if_pos rfl, if_pos (by simpa using this)]⟩
theorem touch_set (k : κ) (z v : ν) (m : List (κ × ν)) : (mtouch k z m).set (midx k m) (k, v) = mset k v m := by
  unfold mtouch midx mset
  cases hx : mfind k m 0 with
  | none => simp
  | some q => simp
end
section
variable {κ ν : Type} [GoP κ] [GoP ν]
def kvs (m : List (κ × ν)) : List (V × V) := m.map fun e => (GoP.pv e.1, GoP.pv e.2)
theorem kvs_length (m : List (κ × ν)) : (kvs m).length = m.length := by simp [kvs]
theorem kvs_set (m : List (κ × ν)) (i : Nat) (k : κ) (v : ν) : (kvs m).set i (GoP.pv k, GoP.pv v) = kvs (m.set i (k, v)) := by
  unfold kvs
  rw [List.map_set]
theorem kvs_push (m : List (κ × ν)) (k : κ) (v : ν) : kvs m ++ [(GoP.pv k, GoP.pv v)] = kvs (m ++ [(k, v)]) := by simp [kvs]
end
section maps
variable {κ ν : Type} [GoP κ] [GoP ν] [DecidableEq κ]
theorem findM_typed {kt : KT} (hf : KeyFit kt κ) (k : κ) : ∀ (m : List (κ × ν)) (i : Nat), findM kt (GoP.pv k) (kvs m) i = some ((mfind k m i).map fun x => (x.1, GoP.pv x.2))
  | [], i => rfl
  | e :: m, i => by
    show (eqKey kt (GoP.pv k) (GoP.pv e.1)).bind _ = _
    rw [hf k e.1, Option.bind_some]
    unfold mfind
    by_cases h : k = e.1
    · simp only [h, decide_true, if_true, Option.map_some]
    · simp only [h, decide_false, Bool.false_eq_true, if_false]
      exact findM_typed hf k m (i + 1)
section steps
variable {P : Program} {h : Hints} {fk n base : Nat} {lk : Lk} {c : Cx} {ops : Array Oper} {s kk : Bool} {d : Nat} {ty : TypeId} {pos : String} {aft : Array Edge} {l : List (Bool × Bool × Oper)} {Q : St → Prop} {T : Nat → V} {G G' H : Heap} {rs : List Res} {op : Op}
theorem pMm {t : TypeId} (κ ν : Type) [GoP κ] [GoP ν] (hO : Owns H G rs) (k : ∀ b G', Owns H G' (.blk b (.mp (kvs ([] : List (κ × ν)))) :: rs) → wpR (cxL P h fk n base lk) ops l ⟨upd T d (.mref b), G'⟩ Q) (hd : Nat.blt d n = true := by rfl) :
    wpR (cxL P h fk n base lk) ops ((s, kk, ⟨some d, .makeMap t none, ty, pos, aft, none⟩) :: l) ⟨T, G⟩ Q :=
  pV (G' := G ++ [.mp []]) rfl hd (k _ _ (hO.alloc (.mp [])))
theorem look_eq {t e : TypeId} {kt : KT} {b : Nat} {m : List (κ × ν)} {k : κ} {z : ν} {ok : Bool} (hg : G[b]? = some (.mp (kvs m))) (hm : mapK P t = some (kt, e)) (hf : KeyFit kt κ) (hz : zero1 P e = some (GoP.pv z)) :
    lookK P t G (.mref b) (GoP.pv k) ok = some (if ok then .tup [GoP.pv (mget k m z), .bool (mhas k m)] else GoP.pv (mget k m z)) := by
  unfold lookK
  simp only [hg, hm, Option.bind_some]
  rw [if_pos ⟨GoP.plain k, by rw [hf k k]; simp⟩, findM_typed hf k m 0]
  unfold mget mhas
  cases hx : mfind k m 0 with
  | none => simp only [Option.map_none, Option.bind_some, hz, Option.map_some]; rfl
  | some x => simp only [Option.map_some, Option.bind_some]; rfl
theorem pLk {t e : TypeId} {kt : KT} {x y : Operand} {b : Nat} {m : List (κ × ν)} (k : κ) (z : ν) (hg : G[b]? = some (.mp (kvs m))) (hm : mapK P t = some (kt, e)) (hf : KeyFit kt κ) (hz : zero1 P e = some (GoP.pv z)) (kk' : wpR (cxL P h fk n base lk) ops l ⟨upd T d (GoP.pv (mget k m z)), G⟩ Q) (h1 : ev T x = some (.mref b) := by rfl) (h2 : ev T y = some (GoP.pv k) := by rfl) (hd : Nat.blt d n = true := by rfl) :
    wpR (cxL P h fk n base lk) ops ((s, kk, ⟨some d, .lookup t x y false, ty, pos, aft, none⟩) :: l) ⟨T, G⟩ Q := by
  refine pV ?_ hd kk'
  show ((ev T x).bind fun m => (ev T y).bind fun kv => (lookK P t G m kv false).map fun v => (v, G)) = _
  rw [h1, h2]
  simp only [Option.bind_some, look_eq hg hm hf hz]
  rfl
theorem pLk2 {t e : TypeId} {kt : KT} {x y : Operand} {b : Nat} {m : List (κ × ν)} (k : κ) (z : ν) (hg : G[b]? = some (.mp (kvs m))) (hm : mapK P t = some (kt, e)) (hf : KeyFit kt κ) (hz : zero1 P e = some (GoP.pv z)) (kk' : wpR (cxL P h fk n base lk) ops l ⟨upd T d (.tup [GoP.pv (mget k m z), .bool (mhas k m)]), G⟩ Q) (h1 : ev T x = some (.mref b) := by rfl) (h2 : ev T y = some (GoP.pv k) := by rfl) (hd : Nat.blt d n = true := by rfl) :
    wpR (cxL P h fk n base lk) ops ((s, kk, ⟨some d, .lookup t x y true, ty, pos, aft, none⟩) :: l) ⟨T, G⟩ Q := by
  refine pV ?_ hd kk'
  show ((ev T x).bind fun m => (ev T y).bind fun kv => (lookK P t G m kv true).map fun v => (v, G)) = _
  rw [h1, h2]
  simp only [Option.bind_some, look_eq hg hm hf hz]
  rfl
theorem own_may {b : Nat} (hb : H.length ≤ b) : ((cxL P h fk n H.length lk).care s kk).mayWrite b = true := by
  unfold Cx.mayWrite
  simp only [Bool.or_eq_true, decide_eq_true_eq]
  exact .inl hb
theorem pUp {t e : TypeId} {kt : KT} {x y w : Operand} {b : Nat} {m : List (κ × ν)} (hO : Owns H G rs) (j : Nat) (k : κ) (v : ν) (hm : mapK P t = some (kt, e)) (hf : KeyFit kt κ) (hb : base = H.length)
    (kk' : ∀ G', Owns H G' (rs.set j (.blk b (.mp (kvs (mset k v m))))) → wpR (cxL P h fk n base lk) ops l ⟨T, G'⟩ Q)
    (h1 : ev T x = some (.mref b) := by rfl) (h2 : ev T y = some (GoP.pv k) := by rfl) (h3 : ev T w = some (GoP.pv v) := by rfl) (hj : rs[j]? = some (.blk b (.mp (kvs m))) := by rfl) :
    wpR (cxL P h fk n base lk) ops ((s, kk, ⟨none, .mapUpdate t x y w, ty, pos, aft, none⟩) :: l) ⟨T, G⟩ Q := by
  subst hb
  obtain ⟨hg, hbb⟩ := hO.get hj
  have hlt : b < G.length := (List.getElem?_eq_some_iff.1 hg).1
  refine pV0 (v := undefV) ?_ (kk' _ (hO.set (x := .mp (kvs (mset k v m))) hj rfl rfl ⟨hbb, by rw [set_get, if_pos ⟨rfl, hlt⟩]⟩))
  show ((ev T x).bind fun m => (ev T y).bind fun kv => (ev T w).bind fun u => (updK ((cxL P h fk n H.length lk).care s kk) t G m kv u).map fun H => (undefV, H)) = _
  rw [h1, h2, h3]
  have hmK : mapK ((cxL P h fk n H.length lk).care s kk).P t = some (kt, e) := hm
  simp only [Option.bind_some, updK, hg, hmK]
  rw [if_pos ⟨GoP.plain k, GoP.plain v, by rw [hf k k]; simp, own_may hbb⟩, findM_typed hf k m 0]
  unfold mset
  cases hx : mfind k m 0 with
  | none => simp only [Option.map_none, Option.map_some, kvs_push]
  | some q => simp only [Option.map_some, kvs_set]
theorem pEn {t e : TypeId} {kt : KT} {x y : Operand} {b : Nat} {m : List (κ × ν)} (hO : Owns H G rs) (j : Nat) (k : κ) (z : ν) (hm : mapK P t = some (kt, e)) (hf : KeyFit kt κ) (hz : zero1 P e = some (GoP.pv z)) (hb : base = H.length)
    (kk' : ∀ G', Owns H G' (rs.set j (.blk b (.mp (kvs (mtouch k z m))))) → wpR (cxL P h fk n base lk) ops l ⟨upd T d (.tup [GoP.pv (mget k m z), .int .i64 (midx k m)]), G'⟩ Q)
    (h1 : ev T x = some (.mref b) := by rfl) (h2 : ev T y = some (GoP.pv k) := by rfl) (hj : rs[j]? = some (.blk b (.mp (kvs m))) := by rfl) (hd : Nat.blt d n = true := by rfl) :
    wpR (cxL P h fk n base lk) ops ((s, kk, ⟨some d, .mapEntry t x y, ty, pos, aft, none⟩) :: l) ⟨T, G⟩ Q := by
  subst hb
  obtain ⟨hg, hbb⟩ := hO.get hj
  have hlt : b < G.length := (List.getElem?_eq_some_iff.1 hg).1
  refine pV ?_ hd (kk' _ (hO.set (x := .mp (kvs (mtouch k z m))) hj rfl rfl ⟨hbb, by rw [set_get, if_pos ⟨rfl, hlt⟩]⟩))
  show ((ev T x).bind fun m => (ev T y).bind fun kv => entryK ((cxL P h fk n H.length lk).care s kk) t G m kv) = _
  rw [h1, h2]
  have hmK : mapK ((cxL P h fk n H.length lk).care s kk).P t = some (kt, e) := hm
  have hzK : zero1 ((cxL P h fk n H.length lk).care s kk).P e = some (GoP.pv z) := hz
  simp only [Option.bind_some, entryK, hg, hmK]
  rw [if_pos ⟨GoP.plain k, by rw [hf k k]; simp, own_may hbb⟩, findM_typed hf k m 0]
  unfold mtouch mget midx
  cases hx : mfind k m 0 with
  | none => simp only [Option.map_none, Option.bind_some, hzK, GoP.plain z, if_true, kvs_push, kvs_length]
  | some q => simp only [Option.map_some, Option.bind_some, kvs_set]
theorem pEs {t : TypeId} {x y w : Operand} {b : Nat} {m : List (κ × ν)} (hO : Owns H G rs) (j : Nat) (k : κ) (z v : ν) (hb : base = H.length)
    (kk' : ∀ G', Owns H G' (rs.set j (.blk b (.mp (kvs (mset k v m))))) → wpR (cxL P h fk n base lk) ops l ⟨T, G'⟩ Q)
    (h1 : ev T x = some (.mref b) := by rfl) (h2 : ev T y = some (.int .i64 (midx k m)) := by rfl) (h3 : ev T w = some (GoP.pv v) := by rfl) (hj : rs[j]? = some (.blk b (.mp (kvs (mtouch k z m)))) := by rfl) :
    wpR (cxL P h fk n base lk) ops ((s, kk, ⟨none, .entryStore t x y w, ty, pos, aft, none⟩) :: l) ⟨T, G⟩ Q := by
  subst hb
  obtain ⟨hg, hbb⟩ := hO.get hj
  have hlt : b < G.length := (List.getElem?_eq_some_iff.1 hg).1
  refine pV0 (v := undefV) ?_ (kk' _ (hO.set (x := .mp (kvs (mset k v m))) hj rfl rfl ⟨hbb, by rw [set_get, if_pos ⟨rfl, hlt⟩]⟩))
  show ((ev T x).bind fun m => (ev T y).bind fun st => (ev T w).bind fun u => (enterK ((cxL P h fk n H.length lk).care s kk) G m st u).map fun H => (undefV, H)) = _
  rw [h1, h2, h3]
  simp only [Option.bind_some, enterK, hg]
  rw [if_pos ⟨by omega, GoP.plain v, own_may hbb⟩]
  obtain ⟨v0, hv0⟩ := touch_get k z m
  have hk : (kvs (mtouch k z m))[(midx k m : Int).toNat]? = some (GoP.pv k, GoP.pv v0) := by
    unfold kvs
    rw [Int.toNat_natCast, List.getElem?_map, hv0]
    rfl
  rw [hk]
  simp only [Option.map_some, Int.toNat_natCast, kvs_set, touch_set]
end steps
end maps

end Go.Proofs.Ytblodpbcinkehaa.K
