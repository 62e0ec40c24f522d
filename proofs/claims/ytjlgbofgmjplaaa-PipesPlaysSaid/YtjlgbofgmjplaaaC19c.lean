/-
  Layer 19: contracts of 'Take', 'Drop' and 'Make'.
-/
import Derived.Test.YtjlgbofgmjplaaaC19b
set_option linter.unusedSimpArgs false
namespace Go.Proofs
open Go Go.Den

def bytesOf (bs : List UInt8) : ByteArray := ⟨bs.toArray⟩
theorem bys8_bytesOf (bs : List UInt8) : bys8 (bytesOf bs) = bs.map u8v := by simp [bys8, bytesOf, u8v]
theorem u8v_cell (bs : List UInt8) : ∀ u ∈ bs.map u8v, isCell u = true := by
  intro u hu
  simp only [List.mem_map] at hu
  obtain ⟨b, _, rfl⟩ := hu
  rfl
def takeN (bs : List UInt8) (n : Int) : Nat := min n.toNat bs.length

theorem pipes_take {w : World} {p : Nat} {l : List (Option (List UInt8))} {F : List Nat} (h : PipesP w p l F) (id n : Int) {K : Value → World → Prop} (h0 : (id < 0 ∨ 16 ≤ id ∨ ∃ k : Nat, id = k ∧ l[k]? = some none) → K (.string (bytesOf [])) w)
    (h1 : ∀ (k : Nat) (bs : List UInt8) (w' : World), id = k → l[k]? = some (some bs) → bs.length ≤ 8 → PipesP w' p (l.set k (some (bs.drop (takeN bs n)))) F → Mod F w w' → K (.string (bytesOf (bs.take (takeN bs n)))) w') :
    CallsR Try.prog F_pipes_Pipes_Take #[.pointer (some ⟨p, 0, none⟩), .int .i64 id, .int .i64 n] w K := by
  apply R_pipes_Pipes_Take_ok
  have conv : ∀ {w' : World} {A : Option Addr} {L C : Nat} {bs : List UInt8} {G : List Nat}, SlB w' A L C 1 (bs.map u8v) G → (convert 64 9 (.slice A L C)).run Try.prog w' = .ok (.string (bytesOf bs)) w' := fun h => convert_str (by kernel_rfl) (show Try.prog.underlying 5 = some (.int .u8) by kernel_rfl) (by kernel_rfl) (by rw [bys8_bytesOf]; exact h)
  refine pipes_at h id (fun hb => ⟨_, rfl, ?_⟩) (fun k r bs hk hb hring hrF hset => ⟨_, rfl, ?_⟩)
  · simp only [Option.isNone_none, Bool.not_true, spl_false]
    refine ⟨fun A L C w' => A = none ∧ L = 0 ∧ C = 0 ∧ w' = w, ?_, fun m A L C w' => A = none ∧ L = 0 ∧ C = 0 ∧ w' = w, ⟨0, rfl, rfl, rfl, rfl⟩, ?_⟩
    · rintro A L C - w' ⟨rfl, rfl, rfl, rfl⟩
      exact ⟨_, _, conv (bs := []) (SlB.nil w' 1), _, rfl, h0 hb⟩
    · rintro m A L C - w' ⟨rfl, rfl, rfl, rfl⟩
      exact ⟨rfl, rfl, rfl, rfl⟩
  · simp only [Option.isNone_some, Bool.not_false, spl_true, spl_decide]
    have hlen := hring.len
    have hrlt := hring.lt
    refine ⟨fun A L C w' => ∃ G, L = takeN bs n ∧ SlB w' A L C 1 ((bs.take L).map u8v) G ∧ RingP w' r (bs.drop L) ∧ Mod [r] w w', ?_,
      fun m A L C w' => ∃ G, L ≤ takeN bs n ∧ m = bs.length - L ∧ SlB w' A L C 1 ((bs.take L).map u8v) G ∧ (∀ b ∈ G, w.heap.size ≤ b) ∧ RingP w' r (bs.drop L) ∧ Mod [r] w w', ⟨bs.length, [], by omega, by omega, by simpa using SlB.nil w 1, by simp, by simpa using hring, Mod.refl _ _⟩, ?_⟩
    · rintro A L C - w' ⟨G, rfl, hs, hr2, hm2⟩
      exact ⟨_, _, conv hs, _, rfl, h1 k bs w' hk hb hlen (hset w' _ hr2 hm2) (hm2.mono (by simp only [List.mem_singleton]; rintro b rfl; exact hrF))⟩
    · rintro m A L C - w2 ⟨G, hL, rfl, hs, hG, hr2, hm2⟩
      unfold takeN at hL
      have hLb : L ≤ bs.length := by omega
      refine ⟨fun hlt => ?_, fun hge => ⟨G, by unfold takeN; omega, hs, hr2, hm2⟩⟩
      refine ring_take hr2 (fun hnil => ⟨_, _, rfl, ?_⟩) (fun b bs' w3 hbs hr3 hm3 => ⟨_, _, rfl, ?_⟩)
      · rw [spl_false]
        have : bs.length ≤ L := by simpa using hnil
        exact ⟨G, by unfold takeN; omega, hs, hr2, hm2⟩
      · rw [spl_true, newK_eq]
        have hLlt : L < bs.length := by
          have := congrArg List.length hbs
          simp at this
          omega
        have hrG : ∀ x ∈ G, x ∉ [r] := fun x hx => by
          have := hG x hx
          simp only [List.mem_singleton]
          omega
        have hs3 := (hs.mod hm3 hrG).alloc (.cells #[.int .u8 (b.toNat : Int)] 5)
        have hx := SlB.new w3 [u8v b] 5 (l := 1) (sz := 1) rfl
        obtain ⟨A', C', w4, G', hrun, hs4, hm4, ho4⟩ := append_run slT_u8 (by decide) hs3 hx (by intro u hu; simp at hu; subst hu; rfl) (by omega) (by omega) 64
        refine ⟨_, _, hrun, _, _, _, rfl, bs.length - (L + 1), by omega, G', by unfold takeN; omega, rfl, ?_, ?_, ?_, ?_⟩
        · have e : bs[L]'hLlt = b := by
            have h := congrArg (·[0]?) hbs
            simp only [List.getElem?_drop, Nat.add_zero, List.getElem?_eq_getElem hLlt, List.getElem?_cons_zero, Option.some.injEq] at h
            exact h
          rw [List.take_succ_eq_append_getElem hLlt, e, List.map_append]
          exact hs4
        · intro x hx
          rcases ho4 x hx with h | h
          · exact hG x h
          · rw [alloc_size] at h
            have := hm2.size
            have := hm3.size
            omega
        · have e : bs.drop (L + 1) = bs' := by
            have := congrArg (List.drop 1) hbs
            simpa [List.drop_drop, Nat.add_comm] using this
          rw [e]
          refine hr3.keep ?_
          rw [hm4.keep r (by rw [alloc_size]; have := hr3.lt; omega) (fun h => hrG r h (by simp))]
          exact alloc_old _ hr3.lt
        · refine ((hm2.trans' hm3).alloc _).trans hm4 fun x hx hlt => absurd (hG x hx) (by omega)

end Go.Proofs
