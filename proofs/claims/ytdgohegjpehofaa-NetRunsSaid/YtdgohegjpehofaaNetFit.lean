/- 'fit' of layer 16: what was sent is read. -/
import Derived.Test.YtdgohegjpehofaaNetB
import Derived.Test.YtdgohegjpehofaaNetE
namespace Go.Proofs.Ytdgohegjpehofaa
open Go.RowKit

theorem net_zero (a : Nat) : net a ⟨none, 0, [], none, 0, []⟩ = SP.blk a (.cells #[.slice none 0 0, .slice none 0 0] 27) := by
  unfold net Ns.head
  simp only [List.map_nil, List.length_nil, slo_nil, SP.all, SP.mul_one]

set_option maxHeartbeats 4000000 in
theorem fit_any (w : World) :
    Calls Try.prog 4 #[] w fun e w' => e = .returned (.bool true) ∧ St w 1 w' := by
  have hS0 : St w (net w.heap.size ⟨none, 0, [], none, 0, []⟩ * 1) (w.alloc (.cells #[.slice none 0 0, .slice none 0 0] 27)) := by
    rw [net_zero]; exact (St.refl w).alloc _
  have H0 := Lib.hid hS0
  clear hS0
  go_enter Try.func4, Try.ntmps4
  go_wp2_with fail
  refine (dial_any H0.out (by simp) (by simp)).mono ?_
  rintro e w1 ⟨rfl, B, ao, cap, dao, dcap, hS⟩
  have H1 := Lib.hid hS
  clear hS H0
  go_wp2_with fail
  refine (send_ok H1.out 0 (by simp) ⟨#[97, 98]⟩ (by simp [Cn.fresh, sendOk]) (show 0 ≤ 1000000 by omega) (show 0 + 2 ≤ 9223372036854775807 by omega)).mono ?_
  rintro e w2 ⟨rfl, ao2, cap2, hS⟩
  have hS' : St w (net w.heap.size ⟨ao, cap, [⟨B, ao2, cap2, [⟨#[97, 98]⟩], 2, false, false, false, false, ByteArray.empty⟩], dao, dcap, [0]⟩ * 1) w2 := hS
  have H2 := Lib.hid hS'
  clear hS hS' H1
  go_wp2_with fail
  refine (accept_ok H2.out 0 [] rfl (by simp)).mono ?_
  rintro e w3 ⟨rfl, hS⟩
  have hS' : St w (net w.heap.size ⟨ao, cap, [⟨B, ao2, cap2, [⟨#[97, 98]⟩], 2, false, false, true, false, ByteArray.empty⟩], cutAt dao dcap 1 1, dcap - 1, []⟩ * 1) w3 := hS
  have H3 := Lib.hid hS'
  clear hS hS' H2
  go_wp2_with fail
  refine (read_ok H3.out 0 (by simp) ⟨#[97, 98]⟩ [] rfl).mono ?_
  rintro e w4 ⟨rfl, hS⟩
  have hS' : St w (net w.heap.size ⟨ao, cap, [⟨B, cutAt ao2 cap2 1 1, cap2 - 1, [], 2, false, false, true, false, ByteArray.empty⟩], cutAt dao dcap 1 1, dcap - 1, []⟩ * 1) w4 := hS
  have H4 := Lib.hid hS'
  clear hS hS' H3
  go_wp2_with fail
  refine (write_ok H4.out 0 (by simp) ⟨#[120]⟩ (show 0 + 1 ≤ 9223372036854775807 by omega) rfl).mono ?_
  rintro e w5 ⟨rfl, hS⟩
  have hS' : St w (net w.heap.size ⟨ao, cap, [⟨B, cutAt ao2 cap2 1 1, cap2 - 1, [], 2, false, false, true, false, ⟨#[120]⟩⟩], cutAt dao dcap 1 1, dcap - 1, []⟩ * 1) w5 := hS
  have H5 := Lib.hid hS'
  clear hS hS' H4
  go_wp2_with fail
  refine (written_any H5.out 0).mono ?_
  rintro e w6 ⟨rfl, rfl⟩
  rw [show outS (Ns.at? ⟨ao, cap, [⟨B, cutAt ao2 cap2 1 1, cap2 - 1, [], 2, false, false, true, false, ⟨#[120]⟩⟩], cutAt dao dcap 1 1, dcap - 1, []⟩ 0) = ⟨#[120]⟩ from rfl]
  go_wp2_with fail
  refine (came_any H5.out 0).mono ?_
  rintro e w6 ⟨rfl, rfl⟩
  rw [show cameI (Ns.at? ⟨ao, cap, [⟨B, cutAt ao2 cap2 1 1, cap2 - 1, [], 2, false, false, true, false, ⟨#[120]⟩⟩], cutAt dao dcap 1 1, dcap - 1, []⟩ 0) = 2 from rfl]
  go_wp2_with fail
  refine (len_any H5.out).mono ?_
  rintro e w6 ⟨rfl, rfl⟩
  go_wp2_with fail
  go_ret
  exact ⟨rfl, H5.out.drop⟩
end Go.Proofs.Ytdgohegjpehofaa
