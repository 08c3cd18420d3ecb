/- SHA-256 of the package digest: its constants. No conditions. -/
import Derived.Test.YtjhpdcfhdpnloaaDigest2
namespace Go.Proofs.Ytjhpdcfhdpnloaa
open Go.RowKit

def shaK : List Int := [
  0x428a2f98, 0x71374491, 0xb5c0fbcf, 0xe9b5dba5, 0x3956c25b, 0x59f111f1, 0x923f82a4, 0xab1c5ed5,
  0xd807aa98, 0x12835b01, 0x243185be, 0x550c7dc3, 0x72be5d74, 0x80deb1fe, 0x9bdc06a7, 0xc19bf174,
  0xe49b69c1, 0xefbe4786, 0x0fc19dc6, 0x240ca1cc, 0x2de92c6f, 0x4a7484aa, 0x5cb0a9dc, 0x76f988da,
  0x983e5152, 0xa831c66d, 0xb00327c8, 0xbf597fc7, 0xc6e00bf3, 0xd5a79147, 0x06ca6351, 0x14292967,
  0x27b70a85, 0x2e1b2138, 0x4d2c6dfc, 0x53380d13, 0x650a7354, 0x766a0abb, 0x81c2c92e, 0x92722c85,
  0xa2bfe8a1, 0xa81a664b, 0xc24b8b70, 0xc76c51a3, 0xd192e819, 0xd6990624, 0xf40e3585, 0x106aa070,
  0x19a4c116, 0x1e376c08, 0x2748774c, 0x34b0bcb5, 0x391c0cb3, 0x4ed8aa4a, 0x5b9cca4f, 0x682e6ff3,
  0x748f82ee, 0x78a5636f, 0x84c87814, 0x8cc70208, 0x90befffa, 0xa4506ceb, 0xbef9a3f7, 0xc67178f2]
def shaH : List Int := [0x6a09e667, 0xbb67ae85, 0x3c6ef372, 0xa54ff53a, 0x510e527f, 0x9b05688c, 0x1f83d9ab, 0x5be0cd19]
theorem one_u32s (l : List Int) : ∀ v ∈ u32s l, v.oneCell' = true := by
  intro v hv; simp only [u32s, List.mem_map] at hv; obtain ⟨a, _, rfl⟩ := hv; rfl
theorem shaH_words : Words shaH := fun j => by
  match j with
  | 0 => decide
  | 1 => decide
  | 2 => decide
  | 3 => decide
  | 4 => decide
  | 5 => decide
  | 6 => decide
  | 7 => decide
  | j + 8 => exact ⟨Int.le_refl _, by show (0 : Int) ≤ _; omega⟩

set_option maxHeartbeats 400000 in
set_option maxRecDepth 100000 in
theorem constants_any (w : World) : Calls Try.prog 33 #[] w fun e w' => e = .returned (.agg (u32s shaK).toArray) ∧ Ext w w' := by
  go_enter Try.func33, Try.ntmps33
  go_wp2_with ((with_reducible refine gate (.store 57 (.tmp 0) (.tmp 1)) rfl ?_); refine wpList_store_blk rfl 57 (.tmp 0) (.tmp 1) rfl rfl w.heap.size rfl (cs := u32s shaK) (by exact rfl) (Blk.new w 57 (Array.replicate 64 (.int .u32 0))) (by exact rfl) (by exact rfl) (by exact one_u32s _) ?_)
  intro w1 hb hx
  go_wp2_with fail
  refine bodyPost_ret (results_cell_blk (cs := u32s shaK) rfl rfl hb Try.underlying57 rfl rfl) rfl ⟨rfl, ((Ext.refl w).alloc _).below hx (Nat.le_refl _)⟩

end Go.Proofs.Ytjhpdcfhdpnloaa
