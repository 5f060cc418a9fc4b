/-
  Contracts of the library's functions that make texts; a table that stands all along.
-/
import Derived.Test.YthdgcninegkalacDoorEvS
import Derived.Sort.Grow
import Derived.Deep.Draws
import Derived.Below
import Derived.Lib.LaidTab
import Derived.Lib.Join
import Derived.Lib.ItoaNum
namespace Go.Ev
open Go.Sort (grow)
open Go.RowKit (Below)

/-- A table of the program's, as it lies in memory. -/
def tabEnv (P : Program) (name : String) (k : IntKind) (zs : List Int) (g : Nat) (hg : P.globalNamed name = some g) : Env where
  n0 := g + 1
  inv := fun w => Lib.TabIs P w name k zs
  low := fun {w} h => by
    unfold Lib.TabIs World.var? at h
    rw [hg] at h
    simp only [Option.bind_some] at h
    rcases Nat.lt_or_ge g w.heap.size with h1 | h1
    · exact h1
    · rw [Array.getElem?_eq_none h1] at h; cases h
  stab := fun {w w'} h _ hk => by
    unfold Lib.TabIs World.var? at *
    rw [hg] at h ⊢
    simp only [Option.bind_some] at h ⊢
    rw [hk g (Nat.lt_succ_self g)]; exact h

/-- The element's type of an array's. -/
def arrE (P : Program) (t : TypeId) : TypeId := match P.underlying t with | some (.array _ e) => e | _ => 0

def i64B (n : Int) : Bool := decide (-9223372036854775808 ≤ n) && decide (n ≤ 9223372036854775807)
/-- A number's numeral. -/
def itoaS (n : Int) : ByteArray := ⟨(Lib.itoa n).toArray⟩
/-- Words with something between. -/
def joinS (l : List Dat) (sep : ByteArray) : ByteArray := ⟨(Lib.join (l.map fun d => d.str.data.toList) sep.data.toList).toArray⟩
abbrev itoaSig : Sig := ⟨[.int .i64], [.str], fun l => i64B (l.getD 0 (.n [])).int, fun l => [.s (itoaS (l.getD 0 (.n [])).int)]⟩
abbrev joinSig : Sig := ⟨[.sl .str, .str], [.str], fun l => Nat.ble (l.getD 0 (.n [])).len 140737488355328 && Nat.ble (joinS (l.getD 0 (.n [])).kids (l.getD 1 (.n [])).str).size 140737488355328,
  fun l => [.s (joinS (l.getD 0 (.n [])).kids (l.getD 1 (.n [])).str)]⟩

theorem cl_grow (w : World) (k : Nat) (os : Array Obj) : Cl w (grow (w.drewN k) os) where
  os := rfl
  tape := rfl
  output := rfl
  size := by simp [grow, World.drewN]
  block := fun B hB => by
    show (w.heap ++ os)[B]? = w.heap[B]?
    rw [Array.getElem?_append_left hB]
theorem cl_below {w w' : World} (h : Below w.heap.size w w') : Cl w w' := ⟨h.os, h.tape, h.output, h.size, fun B hB => h.block B hB⟩

theorem resR_str (w w' : World) (s : ByteArray) : ResR w w' [.str] [.s s] (.string s) :=
  ⟨[.string s], [], by simp, by simp, by
    simp only [TupR]
    exact ⟨_, [], [], [], rfl, rfl, ⟨[.string s], rfl, by simp [OW, Dat.fld, Dat.kids, Dat.str]⟩, rfl, rfl⟩, rfl⟩

theorem con_itoa {E : Env} {P : Program} {f : FuncId} (enter : ∀ (args : Array Value) (w : World), (callFunc f args).run P w = .ok (.enter f args) w)
    (h : ∀ (n : Int), -9223372036854775808 ≤ n → n ≤ 9223372036854775807 → ∀ w : World, E.inv w → Calls P f #[.int .i64 n] w fun e w' => e = .returned (.string ⟨(Lib.itoa n).toArray⟩) ∧ ∃ k os, w' = grow (w.drewN k) os) :
    ConOk E P f itoaSig where
  enter := enter
  calls := by
    intro w ds args hinv hargs hpre
    obtain ⟨d, rfl⟩ := ds_one (hargs.lengths.1)
    simp only [i64B, List.getD_cons_zero, Bool.and_eq_true, decide_eq_true_eq] at hpre
    simp only [ArgsR] at hargs
    obtain ⟨d', ds', v, vs', e1, e2, ⟨cs, rfl, hr⟩, _, rfl⟩ := hargs
    cases e1
    simp only [RO] at hr
    subst hr
    have ea : args = #[.int .i64 d.int] := by rw [← Array.toArray_toList (xs := args), e2]; rfl
    subst ea
    refine (h d.int hpre.1 hpre.2 w hinv).mono ?_
    rintro e w' ⟨rfl, k, os, rfl⟩
    exact ⟨_, rfl, cl_grow w k os, resR_str _ _ _⟩

theorem con_join {E : Env} {P : Program} {f : FuncId} (enter : ∀ (args : Array Value) (w : World), (callFunc f args).run P w = .ok (.enter f args) w)
    (h0 : ∀ (a : Option Addr) (c : Nat) (sep : ByteArray) (w : World), Calls P f #[.slice a 0 c, .string sep] w fun e w' => e = .returned (.string ⟨#[]⟩) ∧ w' = w)
    (h : ∀ (bk o c : Nat) (xs : List ByteArray) (sep : ByteArray) (w : World), (∀ (j : Nat) x, xs[j]? = some x → w.cell? ⟨bk, o + j, none⟩ = some (.string x)) → bk < w.heap.size → xs.length ≤ 140737488355328 → xs.length ≤ c →
      (Lib.join (xs.map (·.data.toList)) sep.data.toList).length ≤ 140737488355328 →
      Calls P f #[.slice (some ⟨bk, o, none⟩) xs.length c, .string sep] w fun e w' => e = .returned (.string ⟨(Lib.join (xs.map (·.data.toList)) sep.data.toList).toArray⟩) ∧ Below w.heap.size w w') :
    ConOk E P f joinSig where
  enter := enter
  calls := by
    intro w ds args hinv hargs hpre
    obtain ⟨d, sp, rfl⟩ := ds_two (hargs.lengths.1)
    simp only [List.getD_cons_zero, List.getD_cons_succ, Bool.and_eq_true] at hpre
    have hlen := Nat.le_of_ble_eq_true hpre.1
    have hjl := Nat.le_of_ble_eq_true hpre.2
    simp only [ArgsR] at hargs
    obtain ⟨d', ds', v, vs', e1, e2, ⟨cs, rfl, hr⟩, d2, ds2, v2, vs2, e3, rfl, ⟨cs2, rfl, hr2⟩, rfl, rfl⟩ := hargs
    cases e1; cases e3
    simp only [RO] at hr hr2
    subst hr2
    obtain ⟨a, cap, rfl, hcap, hel⟩ := hr
    have ea : args = #[.slice a d.len cap, .string sp.str] := by rw [← Array.toArray_toList (xs := args), e2]; rfl
    subst ea
    show Calls P f _ w fun e w' => ∃ v, e = .returned v ∧ Cl w w' ∧ ResR w w' [.str] [.s (joinS d.kids sp.str)] v
    by_cases hd : d.len = 0
    · have hk : d.kids = [] := List.length_eq_zero_iff.1 hd
      rw [hd]
      refine (h0 a cap sp.str w).mono ?_
      rintro e w' ⟨rfl, rfl⟩
      refine ⟨_, rfl, Cl.refl _, ?_⟩
      have : joinS d.kids sp.str = ⟨#[]⟩ := by rw [hk]; rfl
      rw [this]; exact resR_str _ _ _
    · obtain ⟨B, o, rfl, _, hB, _⟩ := hel 0 (by omega)
      have hkl : (d.kids.map Dat.str).length = d.len := by simp [Dat.len]
      have hmap : (d.kids.map Dat.str).map (·.data.toList) = d.kids.map fun x => x.str.data.toList := by simp
      have := h B o cap (d.kids.map Dat.str) sp.str w (fun j x hj => by
        have hjl : j < d.len := by
          rcases Nat.lt_or_ge j d.len with h | h
          · exact h
          · rw [List.getElem?_eq_none (by rw [hkl]; exact h)] at hj; cases hj
        obtain ⟨B', o', e4, _, _, cs', h1, h2, h3⟩ := hel j hjl
        cases e4
        have h4 := h2 0 (by simp [Ty.sz])
        rw [h3] at h4
        simp only [cel, Ty.sz, Nat.mul_one, Nat.add_zero, List.getElem?_cons_zero] at h4
        rw [h4]
        have hjk : j < d.kids.length := hjl
        simp only [List.getElem?_map, List.getElem?_eq_getElem hjk, Option.map_some, Option.some.injEq] at hj
        simp [Dat.fld, List.getD_eq_getElem?_getD, hjk, hj]) hB (by rw [hkl]; exact hlen) (by rw [hkl]; exact hcap) (by
        rw [hmap]
        have : (joinS d.kids sp.str).size = (Lib.join (d.kids.map fun x => x.str.data.toList) sp.str.data.toList).length := by
          unfold joinS; show (List.toArray _).size = _; simp
        rw [this] at hjl; exact hjl)
      rw [hkl, hmap] at this
      refine this.mono ?_
      rintro e w' ⟨rfl, hb⟩
      exact ⟨_, rfl, cl_below hb, resR_str _ _ _⟩
end Go.Ev
